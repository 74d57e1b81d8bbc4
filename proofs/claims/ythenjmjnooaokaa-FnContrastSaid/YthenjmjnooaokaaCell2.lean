/- Contracts of CellLikeness, of the colors at a common side: the program's and the reference's. -/
import Derived.Test.YthenjmjnooaokaaCell
import Derived.Deep.RegionHeld3
namespace Go.Proofs.Ythenjmjnooaokaa
open Go.ChangeShapes Go.WideShapes Go.ChangeAt Go.RowKit
/-- A box of a cell: block b holds its three numbers. -/
def Box3 (w : World) (b : Nat) (f : Nat → Int) : Prop := b < w.heap.size ∧ w.cell? ⟨b, 0, none⟩ = some (.int .i64 (f 0)) ∧ w.cell? ⟨b, 1, none⟩ = some (.int .i64 (f 1)) ∧ w.cell? ⟨b, 2, none⟩ = some (.int .i64 (f 2))
theorem Box3.below {w w' : World} {b B : Nat} {f : Nat → Int} (h : Box3 w b f) (hb : Below B w w') (hB : b < B) : Box3 w' b f :=
  ⟨Nat.lt_of_lt_of_le h.1 hb.size, (hb.cell (p := ⟨b, 0, none⟩) hB).trans h.2.1, (hb.cell (p := ⟨b, 1, none⟩) hB).trans h.2.2.1, (hb.cell (p := ⟨b, 2, none⟩) hB).trans h.2.2.2⟩
set_option maxHeartbeats 2000000 in
theorem impl_cellLike (f g : Nat → Int) (w : World) : Calls Try.prog 59 #[.agg #[.int .i64 (f 0), .int .i64 (f 1), .int .i64 (f 2)], .agg #[.int .i64 (g 0), .int .i64 (g 1), .int .i64 (g 2)]] w fun e w' => e = .returned (.int .i64 (cellLike f g)) ∧ Below w.heap.size w w' := by
  rcases Bool.eq_false_or_eq_true (cellOk f) with hF | hF
  · go_enter Try.func59, Try.ntmps59
    go_wp2_with fail
    refine (impl_cellOk f _).mono ?_
    rintro e w1 ⟨rfl, hb1⟩
    have b1 : Below w.heap.size w w1 := (((Below.refl _ _).alloc (Nat.le_refl _) _).alloc (by simp) _).trans (hb1.mono (by simp; omega))
    have f1 : Box3 w1 w.heap.size f := Box3.below (w := (w.alloc _).alloc _) ⟨by simp; omega, by go_simp, by go_simp, by go_simp⟩ hb1 (by simp; omega)
    have g1 : Box3 w1 (w.heap.size + 1) g := Box3.below (w := (w.alloc _).alloc _) ⟨by simp, by go_simp, by go_simp, by go_simp⟩ hb1 (by simp)
    clear hb1
    obtain ⟨fz, fc0, fc1, fc2⟩ := id f1
    obtain ⟨gz, gc0, gc1, gc2⟩ := id g1
    go_wp2_with fail
    refine (impl_cellOk g _).mono ?_
    rintro e w2 ⟨rfl, hb2⟩
    have b2 := b1.trans (hb2.mono (by omega))
    have f2 := f1.below hb2 fz
    have g2 := g1.below hb2 gz
    clear hb2 b1 f1 g1 fz fc0 fc1 fc2 gz gc0 gc1 gc2
    rcases Bool.eq_false_or_eq_true (cellOk g) with hG | hG
    · go_wp2_with fail
      go_loopw [5, 6, 15] (fun n _ i wr => ∃ k : Nat, k ≤ 4 ∧ i = .int .i64 k ∧ n = .int .i64 (likeTo f g k) ∧ Below w.heap.size w wr ∧ Box3 wr w.heap.size f ∧ Box3 wr (w.heap.size + 1) g) (fun _ _ i _ => 4 - (intOf i).toNat)
      case atStart => exact ⟨0, by omega, rfl, rfl, b2, f2, g2⟩
      case round =>
        obtain ⟨k, hk, rfl, rfl, hb, f3, g3⟩ := hrel
        clear f2 g2 b2
        obtain ⟨fz, fc0, fc1, fc2⟩ := id f3
        obtain ⟨gz, gc0, gc1, gc2⟩ := id g3
        have hl := likeTo_bd f g k
        by_cases hlt : k < 4
        · go_wp2_with fail
          go_region_held3 (fun w' => w'.cell? ⟨w.heap.size, 0, none⟩ = some (.int .i64 (f 0)) ∧ w'.cell? ⟨w.heap.size, 1, none⟩ = some (.int .i64 (f 1)) ∧ w'.cell? ⟨w.heap.size, 2, none⟩ = some (.int .i64 (f 2)) ∧ w'.cell? ⟨w.heap.size + 1, 0, none⟩ = some (.int .i64 (g 0)) ∧ w'.cell? ⟨w.heap.size + 1, 1, none⟩ = some (.int .i64 (g 1)) ∧ w'.cell? ⟨w.heap.size + 1, 2, none⟩ = some (.int .i64 (g 2))) (first | go_keep | (exact ⟨s0, s1, s2, s3, s4, s5⟩)) (first | (go_at_call 92; ((with_reducible refine (impl_colorAt f _ _).mono ?_); rintro e wc0 ⟨rfl, hbc0⟩); replace hbc0 := below_drew hbc0; obtain ⟨hcc0, hfc0⟩ := bcell hbc0; have zc0 := hbc0.size; have s0 := (hcc0 (w.heap.size) 0 (by omega)).trans fc0; have s1 := (hcc0 (w.heap.size) 1 (by omega)).trans fc1; have s2 := (hcc0 (w.heap.size) 2 (by omega)).trans fc2; have s3 := (hcc0 (w.heap.size + 1) 0 (by omega)).trans gc0; have s4 := (hcc0 (w.heap.size + 1) 1 (by omega)).trans gc1; have s5 := (hcc0 (w.heap.size + 1) 2 (by omega)).trans gc2) | (go_at_call 92; ((with_reducible refine (impl_colorAt g _ _).mono ?_); rintro e wc1 ⟨rfl, hbc1⟩); obtain ⟨hcc1, hfc1⟩ := bcell hbc1; have zc1 := hbc1.size; have s0 := (hcc1 (w.heap.size) 0 (by omega)).trans s0; have s1 := (hcc1 (w.heap.size) 1 (by omega)).trans s1; have s2 := (hcc1 (w.heap.size) 2 (by omega)).trans s2; have s3 := (hcc1 (w.heap.size + 1) 0 (by omega)).trans s3; have s4 := (hcc1 (w.heap.size + 1) 1 (by omega)).trans s4; have s5 := (hcc1 (w.heap.size + 1) 2 (by omega)).trans s5))
          clear fc0 fc1 fc2 gc0 gc1 gc2
          have b5 : Below w.heap.size w wc0 := hb.trans (hbc0.mono (by omega))
          have b6 : Below w.heap.size w wc1 := b5.trans (hbc1.mono (by omega))
          clear b5
          have f5 : Box3 wc0 w.heap.size f := Box3.below f3 hbc0 (by omega)
          have g5 : Box3 wc0 (w.heap.size + 1) g := Box3.below g3 hbc0 (by omega)
          have f6 : Box3 wc1 w.heap.size f := Box3.below f5 hbc1 (by omega)
          have g6 : Box3 wc1 (w.heap.size + 1) g := Box3.below g5 hbc1 (by omega)
          clear f5 g5
          clear hbc0 hbc1 hcc0 hcc1 hfc0 hfc1
          have hstep : likeTo f g (k + 1) = likeTo f g k + (if colorAt f k == colorAt g k then 1 else 0) := rfl
          rcases Bool.eq_false_or_eq_true (colorAt f k == colorAt g k) with hE | hE
          · rw [hE] at hstep
            have HS := Lib.hid hstep
            clear hstep
            go_wp2
            go_roundw
            case rel => exact ⟨k + 1, by omega, by go_num, by rw [HS.out]; rfl, b6, f6, g6⟩
            case measure => simp [intOf]; omega
          · rw [hE] at hstep
            have HS := Lib.hid hstep
            clear hstep
            go_wp2
            go_roundw
            case rel => exact ⟨k + 1, by omega, by go_num, by rw [HS.out]; simp, b6, f6, g6⟩
            case measure => simp [intOf]; omega
        · obtain rfl : k = 4 := by omega
          have HE := Lib.hid (show cellLike f g = likeTo f g 4 by simp [cellLike, hF, hG])
          go_wp2
          go_ret
          exact ⟨ret_int HE.out.symm, hb⟩
    · go_wp2
      go_ret
      exact ⟨ret_int (by simp [cellLike, hF, hG]), b2⟩
  · go_enter Try.func59, Try.ntmps59
    go_wp2_with fail
    refine (impl_cellOk f _).mono ?_
    rintro e w1 ⟨rfl, hb1⟩
    go_wp2
    go_ret
    exact ⟨ret_int (by simp [cellLike, hF]), (((Below.refl _ _).alloc (Nat.le_refl _) _).alloc (by simp) _).trans (hb1.mono (by simp; omega))⟩
set_option maxHeartbeats 4000000 in
theorem spec_cellLike (f g : Nat → Int) (w : World) : Calls Try.prog 56 #[.agg #[.int .i64 (f 0), .int .i64 (f 1), .int .i64 (f 2)], .agg #[.int .i64 (g 0), .int .i64 (g 1), .int .i64 (g 2)]] w fun e w' => e = .returned (.int .i64 (cellLike f g)) ∧ Below w.heap.size w w' := by
  rcases Bool.eq_false_or_eq_true (cellOk f && cellOk g) with hO | hO
  · obtain ⟨hF, hG⟩ : cellOk f = true ∧ cellOk g = true := by simpa using hO
    go_enter Try.func56, Try.ntmps56
    go_wp2_with fail
    have b2 : Below w.heap.size w ((w.alloc (.cells #[.int .i64 (f 0), .int .i64 (f 1), .int .i64 (f 2)] 56)).alloc (.cells #[.int .i64 (g 0), .int .i64 (g 1), .int .i64 (g 2)] 56)) := ((Below.refl _ _).alloc (Nat.le_refl _) _).alloc (by simp) _
    have f2 : Box3 ((w.alloc (.cells #[.int .i64 (f 0), .int .i64 (f 1), .int .i64 (f 2)] 56)).alloc (.cells #[.int .i64 (g 0), .int .i64 (g 1), .int .i64 (g 2)] 56)) w.heap.size f := ⟨by simp; omega, by go_simp, by go_simp, by go_simp⟩
    have g2 : Box3 ((w.alloc (.cells #[.int .i64 (f 0), .int .i64 (f 1), .int .i64 (f 2)] 56)).alloc (.cells #[.int .i64 (g 0), .int .i64 (g 1), .int .i64 (g 2)] 56)) (w.heap.size + 1) g := ⟨by simp, by go_simp, by go_simp, by go_simp⟩
    go_loopw [5, 6] (fun n i wr => ∃ k : Nat, k ≤ 4 ∧ i = .int .i64 k ∧ n = .int .i64 (likeTo f g k) ∧ Below w.heap.size w wr ∧ Box3 wr w.heap.size f ∧ Box3 wr (w.heap.size + 1) g) (fun _ i _ => 4 - (intOf i).toNat)
    case atStart => exact ⟨0, by omega, rfl, rfl, b2, f2, g2⟩
    case round =>
      obtain ⟨k, hk, rfl, rfl, hb, f3, g3⟩ := hrel
      clear f2 g2 b2
      obtain ⟨fz, fc0, fc1, fc2⟩ := id f3
      obtain ⟨gz, gc0, gc1, gc2⟩ := id g3
      have hl := likeTo_bd f g k
      by_cases hlt : k < 4
      · go_wp2_with fail
        refine (spec_cellOk f _).mono ?_
        rintro e w4 ⟨rfl, hbx⟩
        have b4 : Below w.heap.size w w4 := hb.trans (hbx.mono (by omega))
        have f4 : Box3 w4 w.heap.size f := Box3.below f3 hbx (by omega)
        have g4 : Box3 w4 (w.heap.size + 1) g := Box3.below g3 hbx (by omega)
        clear hbx fz fc0 fc1 fc2 gz gc0 gc1 gc2
        obtain ⟨fz, fc0, fc1, fc2⟩ := id f4
        obtain ⟨gz, gc0, gc1, gc2⟩ := id g4
        go_wp2_with fail
        refine (spec_cellOk g _).mono ?_
        rintro e w5 ⟨rfl, hbx⟩
        have b5 : Below w.heap.size w w5 := b4.trans (hbx.mono (by omega))
        have f5 : Box3 w5 w.heap.size f := Box3.below f4 hbx (by omega)
        have g5 : Box3 w5 (w.heap.size + 1) g := Box3.below g4 hbx (by omega)
        clear hbx fz fc0 fc1 fc2 gz gc0 gc1 gc2
        obtain ⟨fz, fc0, fc1, fc2⟩ := id f5
        obtain ⟨gz, gc0, gc1, gc2⟩ := id g5
        go_wp2_with fail
        go_region_held3 (fun w' => w'.cell? ⟨w.heap.size, 0, none⟩ = some (.int .i64 (f 0)) ∧ w'.cell? ⟨w.heap.size, 1, none⟩ = some (.int .i64 (f 1)) ∧ w'.cell? ⟨w.heap.size, 2, none⟩ = some (.int .i64 (f 2)) ∧ w'.cell? ⟨w.heap.size + 1, 0, none⟩ = some (.int .i64 (g 0)) ∧ w'.cell? ⟨w.heap.size + 1, 1, none⟩ = some (.int .i64 (g 1)) ∧ w'.cell? ⟨w.heap.size + 1, 2, none⟩ = some (.int .i64 (g 2))) (first | go_keep | (exact ⟨s0, s1, s2, s3, s4, s5⟩)) (first | (go_at_call 90; ((with_reducible refine (spec_colorAt f _ _).mono ?_); rintro e wc0 ⟨rfl, hbc0⟩); replace hbc0 := below_drew hbc0; obtain ⟨hcc0, hfc0⟩ := bcell hbc0; have zc0 := hbc0.size; have s0 := (hcc0 (w.heap.size) 0 (by omega)).trans fc0; have s1 := (hcc0 (w.heap.size) 1 (by omega)).trans fc1; have s2 := (hcc0 (w.heap.size) 2 (by omega)).trans fc2; have s3 := (hcc0 (w.heap.size + 1) 0 (by omega)).trans gc0; have s4 := (hcc0 (w.heap.size + 1) 1 (by omega)).trans gc1; have s5 := (hcc0 (w.heap.size + 1) 2 (by omega)).trans gc2) | (go_at_call 90; ((with_reducible refine (spec_colorAt g _ _).mono ?_); rintro e wc1 ⟨rfl, hbc1⟩); obtain ⟨hcc1, hfc1⟩ := bcell hbc1; have zc1 := hbc1.size; have s0 := (hcc1 (w.heap.size) 0 (by omega)).trans s0; have s1 := (hcc1 (w.heap.size) 1 (by omega)).trans s1; have s2 := (hcc1 (w.heap.size) 2 (by omega)).trans s2; have s3 := (hcc1 (w.heap.size + 1) 0 (by omega)).trans s3; have s4 := (hcc1 (w.heap.size + 1) 1 (by omega)).trans s4; have s5 := (hcc1 (w.heap.size + 1) 2 (by omega)).trans s5))
        clear fc0 fc1 fc2 gc0 gc1 gc2
        have b6 : Below w.heap.size w wc0 := b5.trans (hbc0.mono (by omega))
        have b7 : Below w.heap.size w wc1 := b6.trans (hbc1.mono (by omega))
        have f6 : Box3 wc0 w.heap.size f := Box3.below f5 hbc0 (by omega)
        have g6 : Box3 wc0 (w.heap.size + 1) g := Box3.below g5 hbc0 (by omega)
        have f7 : Box3 wc1 w.heap.size f := Box3.below f6 hbc1 (by omega)
        have g7 : Box3 wc1 (w.heap.size + 1) g := Box3.below g6 hbc1 (by omega)
        clear hbc0 hbc1 hcc0 hcc1 hfc0 hfc1 b4 b5 b6 f4 f5 f6 g4 g5 g6
        have hstep : likeTo f g (k + 1) = likeTo f g k + (if colorAt f k == colorAt g k then 1 else 0) := rfl
        rcases Bool.eq_false_or_eq_true (colorAt f k == colorAt g k) with hE | hE
        · rw [hE] at hstep
          have HS := Lib.hid hstep
          clear hstep
          go_wp2
          go_roundw
          case rel => exact ⟨k + 1, by omega, by go_num, by rw [HS.out]; rfl, b7, f7, g7⟩
          case measure => simp [intOf]; omega
        · rw [hE] at hstep
          have HS := Lib.hid hstep
          clear hstep
          go_wp2
          go_roundw
          case rel => exact ⟨k + 1, by omega, by go_num, by rw [HS.out]; simp, b7, f7, g7⟩
          case measure => simp [intOf]; omega
      · obtain rfl : k = 4 := by omega
        have HE := Lib.hid (show cellLike f g = likeTo f g 4 by simp [cellLike, hF, hG])
        go_wp2
        go_ret
        exact ⟨ret_int HE.out.symm, hb⟩
  · have HE := Lib.hid (show cellLike f g = 0 by simp only [cellLike, hO]; rfl)
    go_enter Try.func56, Try.ntmps56
    go_wp2_with fail
    have b2 : Below w.heap.size w ((w.alloc (.cells #[.int .i64 (f 0), .int .i64 (f 1), .int .i64 (f 2)] 56)).alloc (.cells #[.int .i64 (g 0), .int .i64 (g 1), .int .i64 (g 2)] 56)) := ((Below.refl _ _).alloc (Nat.le_refl _) _).alloc (by simp) _
    have f2 : Box3 ((w.alloc (.cells #[.int .i64 (f 0), .int .i64 (f 1), .int .i64 (f 2)] 56)).alloc (.cells #[.int .i64 (g 0), .int .i64 (g 1), .int .i64 (g 2)] 56)) w.heap.size f := ⟨by simp; omega, by go_simp, by go_simp, by go_simp⟩
    have g2 : Box3 ((w.alloc (.cells #[.int .i64 (f 0), .int .i64 (f 1), .int .i64 (f 2)] 56)).alloc (.cells #[.int .i64 (g 0), .int .i64 (g 1), .int .i64 (g 2)] 56)) (w.heap.size + 1) g := ⟨by simp, by go_simp, by go_simp, by go_simp⟩
    go_loopw [5, 6] (fun n i wr => ∃ k : Nat, k ≤ 4 ∧ k ≤ 0 ∧ i = .int .i64 k ∧ n = .int .i64 (likeTo f g k) ∧ Below w.heap.size w wr ∧ Box3 wr w.heap.size f ∧ Box3 wr (w.heap.size + 1) g) (fun _ i _ => 4 - (intOf i).toNat)
    case atStart => exact ⟨0, by omega, by omega, rfl, rfl, b2, f2, g2⟩
    case round =>
      obtain ⟨k, hk, hk0, rfl, rfl, hb, f3, g3⟩ := hrel
      clear f2 g2 b2
      obtain ⟨fz, fc0, fc1, fc2⟩ := id f3
      obtain ⟨gz, gc0, gc1, gc2⟩ := id g3
      obtain rfl : k = 0 := by omega
      go_wp2_with fail
      refine (spec_cellOk f _).mono ?_
      rintro e w4 ⟨rfl, hbx⟩
      have b4 : Below w.heap.size w w4 := hb.trans (hbx.mono (by omega))
      have f4 : Box3 w4 w.heap.size f := Box3.below f3 hbx (by omega)
      have g4 : Box3 w4 (w.heap.size + 1) g := Box3.below g3 hbx (by omega)
      clear hbx fz fc0 fc1 fc2 gz gc0 gc1 gc2
      obtain ⟨fz, fc0, fc1, fc2⟩ := id f4
      obtain ⟨gz, gc0, gc1, gc2⟩ := id g4
      rcases Bool.eq_false_or_eq_true (cellOk f) with hF | hF
      · have hG : cellOk g = false := by simpa [hF] using hO
        go_wp2_with fail
        refine (spec_cellOk g _).mono ?_
        rintro e w5 ⟨rfl, hbx⟩
        have b5 : Below w.heap.size w w5 := b4.trans (hbx.mono (by omega))
        have f5 : Box3 w5 w.heap.size f := Box3.below f4 hbx (by omega)
        have g5 : Box3 w5 (w.heap.size + 1) g := Box3.below g4 hbx (by omega)
        clear hbx fz fc0 fc1 fc2 gz gc0 gc1 gc2
        obtain ⟨fz, fc0, fc1, fc2⟩ := id f5
        obtain ⟨gz, gc0, gc1, gc2⟩ := id g5
        go_wp2
        go_ret
        exact ⟨ret_int (by rw [HE.out]; rfl), b5⟩
      · go_wp2
        go_ret
        exact ⟨ret_int (by rw [HE.out]; rfl), b4⟩
end Go.Proofs.Ythenjmjnooaokaa
