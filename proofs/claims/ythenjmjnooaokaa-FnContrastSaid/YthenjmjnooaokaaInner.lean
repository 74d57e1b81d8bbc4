/- Contracts of InnerContrast and EdgeContrast: the program's and the reference's. -/
import Derived.Test.YthenjmjnooaokaaCell2
import Derived.Test.YthenjmjnooaokaaStock
import Derived.Test.YthenjmjnooaokaaPureG
import Derived.Deep.QuietTactic
import Derived.BigQuiet
import Derived.Outline
namespace Go.Proofs.Ythenjmjnooaokaa
open Go.ChangeShapes Go.WideShapes Go.ChangeAt Go.RowKit
theorem size_gap (a b : Int) (w : World) (ha : 0 ≤ a ∧ a ≤ 100) (hb : 0 ≤ b ∧ b ≤ 100) : Calls Try.prog 69 #[.int .i64 (a - b)] w fun e w' => e = .returned (.int .i64 (gap a b)) ∧ w = w' := by
  rcases (by omega : a < b ∨ b ≤ a) with h | h
  · have HG := Lib.hid (gap_lt h)
    go_enter Try.func69, Try.ntmps69
    go_wp2
    all_goals go_ret
    all_goals exact ⟨ret_int (by first | (rw [HG.out]; done) | (rw [HG.out]; omega)), rfl⟩
  · have HG := Lib.hid (gap_ge h)
    go_enter Try.func69, Try.ntmps69
    go_wp2
    all_goals go_ret
    all_goals exact ⟨ret_int (by first | (rw [HG.out]; done) | (rw [HG.out]; omega)), rfl⟩
theorem quiet_size (a b : Int) (w : World) (m : Nat) (ha : 0 ≤ a ∧ a ≤ 100) (hb : 0 ≤ b ∧ b ≤ 100) : Calls Try.prog 69 #[.int .i64 (a - b)] (w.drewN m) fun e w' => e = .returned (.int .i64 (gap a b)) ∧ ∃ k, w' = w.drewN k :=
  Calls.quiet_of_same ((size_gap a b _ ha hb).mono fun _ _ ⟨x, y⟩ => ⟨x, y.symm⟩)
theorem gap_any (a b : Int) (w : World) (ha : 0 ≤ a ∧ a ≤ 100) (hb : 0 ≤ b ∧ b ≤ 100) : Calls Try.prog 66 #[.int .i64 a, .int .i64 b] w fun e w' => e = .returned (.int .i64 (gap a b)) ∧ w = w' := by
  rcases (by omega : a < b ∨ b ≤ a) with h | h
  · have HG := Lib.hid (gap_lt h)
    go_enter Try.func66, Try.ntmps66
    go_wp2
    all_goals go_ret
    all_goals exact ⟨ret_int (by first | (rw [HG.out]; done) | (rw [HG.out]; omega)), rfl⟩
  · have HG := Lib.hid (gap_ge h)
    go_enter Try.func66, Try.ntmps66
    go_wp2
    all_goals go_ret
    all_goals exact ⟨ret_int (by first | (rw [HG.out]; done) | (rw [HG.out]; omega)), rfl⟩
theorem quiet_gap (a b : Int) (w : World) (m : Nat) (ha : 0 ≤ a ∧ a ≤ 100) (hb : 0 ≤ b ∧ b ≤ 100) : Calls Try.prog 66 #[.int .i64 a, .int .i64 b] (w.drewN m) fun e w' => e = .returned (.int .i64 (gap a b)) ∧ ∃ k, w' = w.drewN k :=
  Calls.quiet_of_same ((gap_any a b _ ha hb).mono fun _ _ ⟨x, y⟩ => ⟨x, y.symm⟩)
set_option maxHeartbeats 4000000 in
theorem impl_inner (f : Nat → Int) (A : Option Addr) (n c : Nat) (zs : List Int) (B : Nat) (w : World) (h : RowI .i64 w B A n c zs) (hB : B ≤ w.heap.size) :
    Calls Try.prog 37 #[.agg #[.int .i64 (f 0), .int .i64 (f 1), .int .i64 (f 2)], .slice A n c] w fun e w' => e = .returned (.int .i64 (innerC f zs n)) ∧ Below w.heap.size w w' := by
  have hb0 : Below w.heap.size w (w.alloc (.cells #[.int .i64 (f 0), .int .i64 (f 1), .int .i64 (f 2)] 56)) := (Below.refl _ _).alloc (Nat.le_refl _) _
  have f0 : Box3 (w.alloc (.cells #[.int .i64 (f 0), .int .i64 (f 1), .int .i64 (f 2)] 56)) w.heap.size f := ⟨by simp, by go_simp, by go_simp, by go_simp⟩
  have hp := fun (e : cellOk f = true) => cellOk_t e
  have HP := Lib.hid hp
  clear hp
  rcases Bool.eq_false_or_eq_true (cellOk f) with hF | hF
  · obtain ⟨_, p1, p2, _⟩ := HP.out hF
    rcases Bool.eq_false_or_eq_true (okList zs n 0 100) with hZ | hZ
    · obtain ⟨hn, hbd⟩ := okList_t hZ h.len
      have HE := Lib.hid (show innerC f zs n = gap (nth zs (f 1).toNat) (nth zs (f 2).toNat) by unfold innerC; rw [hF, hZ]; rfl)
      have b1 := hbd (f 1).toNat (by omega)
      have b2 := hbd (f 2).toNat (by omega)
      have p3 : f 1 < (n : Int) := by omega
      have p4 : f 2 < (n : Int) := by omega
      have HN := Lib.hid hn
      clear hbd hn
      go_enter Try.func37, Try.ntmps37
      go_wp2_with fail
      refine (impl_cellOk f _).mono ?_
      rintro e w1 ⟨rfl, hb1⟩
      have f1 := f0.below hb1 (by simp)
      have hb2 := hb0.trans (hb1.mono (by simp))
      have h1 : RowI .i64 w1 B A n c zs := h.keep fun p hp => hb2.cell (by omega)
      clear f0 hb0 hb1
      go_wp2_with fail
      refine (impl_contrastOk A n c zs B _ h1).mono ?_
      rintro e w' ⟨rfl, rfl⟩
      obtain ⟨b, off, rfl, hbB, hx⟩ := h1.2.2.2.2 (by have := HN.out; omega)
      have x1 := hx (f 1).toNat (by have := HN.out; omega)
      have x2 := hx (f 2).toNat (by have := HN.out; omega)
      obtain ⟨fz, fc0, fc1, fc2⟩ := id f1
      have ew : IntKind.i64.wrap (nth zs (f 1).toNat - nth zs (f 2).toNat) = nth zs (f 1).toNat - nth zs (f 2).toNat := IntWalk.i64_in _ (by omega)
      clear hx h1 f1
      go_wp2_with fail
      go_quiet ((go_at_call 69; with_reducible exact quiet_size (nth zs (f 1).toNat) (nth zs (f 2).toNat) _ _ b1 b2))
      clear ew
      go_wp2
      go_ret
      exact ⟨ret_int HE.out.symm, ⟨hb2.os, hb2.tape, hb2.output, hb2.size, hb2.block⟩⟩
    · have HE := Lib.hid (show innerC f zs n = -1 by unfold innerC; rw [hZ, Bool.and_false]; rfl)
      go_enter Try.func37, Try.ntmps37
      go_wp2_with fail
      refine (impl_cellOk f _).mono ?_
      rintro e w1 ⟨rfl, hb1⟩
      have hb2 := hb0.trans (hb1.mono (by simp))
      have h1 : RowI .i64 w1 B A n c zs := h.keep fun p hp => hb2.cell (by omega)
      clear f0 hb0 hb1
      go_wp2_with fail
      refine (impl_contrastOk A n c zs B _ h1).mono ?_
      rintro e w' ⟨rfl, rfl⟩
      go_wp2
      go_ret
      exact ⟨ret_int HE.out.symm, hb2⟩
  · have HE := Lib.hid (show innerC f zs n = -1 by unfold innerC; rw [hF]; rfl)
    go_enter Try.func37, Try.ntmps37
    go_wp2_with fail
    refine (impl_cellOk f _).mono ?_
    rintro e w1 ⟨rfl, hb1⟩
    have hb2 := hb0.trans (hb1.mono (by simp))
    clear f0 hb0 hb1
    go_wp2
    go_ret
    exact ⟨ret_int HE.out.symm, hb2⟩
set_option maxHeartbeats 4000000 in
theorem impl_sides (f g : Nat → Int) (up : Bool) (w : World) : Calls Try.prog 78 #[.agg #[.int .i64 (f 0), .int .i64 (f 1), .int .i64 (f 2)], .agg #[.int .i64 (g 0), .int .i64 (g 1), .int .i64 (g 2)], .bool up] w fun e w' => e = .returned (.tuple #[.int .i64 (colorAt f (if up then 2 else 3)), .int .i64 (colorAt g (if up then 0 else 1))]) ∧ Below w.heap.size w w' := by
  have b0 : Below w.heap.size w ((w.alloc (.cells #[.int .i64 (f 0), .int .i64 (f 1), .int .i64 (f 2)] 56)).alloc (.cells #[.int .i64 (g 0), .int .i64 (g 1), .int .i64 (g 2)] 56)) := ((Below.refl _ _).alloc (Nat.le_refl _) _).alloc (by simp) _
  have fc0 : ((w.alloc (.cells #[.int .i64 (f 0), .int .i64 (f 1), .int .i64 (f 2)] 56)).alloc (.cells #[.int .i64 (g 0), .int .i64 (g 1), .int .i64 (g 2)] 56)).cell? ⟨w.heap.size, 0, none⟩ = some (.int .i64 (f 0)) := by go_simp
  have fc1 : ((w.alloc (.cells #[.int .i64 (f 0), .int .i64 (f 1), .int .i64 (f 2)] 56)).alloc (.cells #[.int .i64 (g 0), .int .i64 (g 1), .int .i64 (g 2)] 56)).cell? ⟨w.heap.size, 1, none⟩ = some (.int .i64 (f 1)) := by go_simp
  have fc2 : ((w.alloc (.cells #[.int .i64 (f 0), .int .i64 (f 1), .int .i64 (f 2)] 56)).alloc (.cells #[.int .i64 (g 0), .int .i64 (g 1), .int .i64 (g 2)] 56)).cell? ⟨w.heap.size, 2, none⟩ = some (.int .i64 (f 2)) := by go_simp
  have gc0 : ((w.alloc (.cells #[.int .i64 (f 0), .int .i64 (f 1), .int .i64 (f 2)] 56)).alloc (.cells #[.int .i64 (g 0), .int .i64 (g 1), .int .i64 (g 2)] 56)).cell? ⟨w.heap.size + 1, 0, none⟩ = some (.int .i64 (g 0)) := by go_simp
  have gc1 : ((w.alloc (.cells #[.int .i64 (f 0), .int .i64 (f 1), .int .i64 (f 2)] 56)).alloc (.cells #[.int .i64 (g 0), .int .i64 (g 1), .int .i64 (g 2)] 56)).cell? ⟨w.heap.size + 1, 1, none⟩ = some (.int .i64 (g 1)) := by go_simp
  have gc2 : ((w.alloc (.cells #[.int .i64 (f 0), .int .i64 (f 1), .int .i64 (f 2)] 56)).alloc (.cells #[.int .i64 (g 0), .int .i64 (g 1), .int .i64 (g 2)] 56)).cell? ⟨w.heap.size + 1, 2, none⟩ = some (.int .i64 (g 2)) := by go_simp
  cases up
  · go_enter Try.func78, Try.ntmps78
    go_wp2_with fail
    go_region_held3 (fun w' => w'.cell? ⟨w.heap.size, 0, none⟩ = some (.int .i64 (f 0)) ∧ w'.cell? ⟨w.heap.size, 1, none⟩ = some (.int .i64 (f 1)) ∧ w'.cell? ⟨w.heap.size, 2, none⟩ = some (.int .i64 (f 2)) ∧ w'.cell? ⟨w.heap.size + 1, 0, none⟩ = some (.int .i64 (g 0)) ∧ w'.cell? ⟨w.heap.size + 1, 1, none⟩ = some (.int .i64 (g 1)) ∧ w'.cell? ⟨w.heap.size + 1, 2, none⟩ = some (.int .i64 (g 2))) (first | go_keep | (exact ⟨s0, s1, s2, s3, s4, s5⟩)) (first | (go_at_call 92; ((with_reducible refine (impl_colorAt f 3 _).mono ?_); rintro e wc0 ⟨rfl, hbc0⟩); replace hbc0 := below_drew hbc0; obtain ⟨hcc0, hfc0⟩ := bcell hbc0; have zc0 := hbc0.size; have s0 := (hcc0 (w.heap.size) 0 (by simp <;> omega)).trans fc0; have s1 := (hcc0 (w.heap.size) 1 (by simp <;> omega)).trans fc1; have s2 := (hcc0 (w.heap.size) 2 (by simp <;> omega)).trans fc2; have s3 := (hcc0 (w.heap.size + 1) 0 (by simp <;> omega)).trans gc0; have s4 := (hcc0 (w.heap.size + 1) 1 (by simp <;> omega)).trans gc1; have s5 := (hcc0 (w.heap.size + 1) 2 (by simp <;> omega)).trans gc2; have zz := zc0; simp at zz) | (go_at_call 92; ((with_reducible refine (impl_colorAt g 1 _).mono ?_); rintro e wc1 ⟨rfl, hbc1⟩); obtain ⟨hcc1, hfc1⟩ := bcell hbc1; have zc1 := hbc1.size; have s0 := (hcc1 (w.heap.size) 0 (by omega)).trans s0; have s1 := (hcc1 (w.heap.size) 1 (by omega)).trans s1; have s2 := (hcc1 (w.heap.size) 2 (by omega)).trans s2; have s3 := (hcc1 (w.heap.size + 1) 0 (by omega)).trans s3; have s4 := (hcc1 (w.heap.size + 1) 1 (by omega)).trans s4; have s5 := (hcc1 (w.heap.size + 1) 2 (by omega)).trans s5))
    clear fc0 fc1 fc2 gc0 gc1 gc2
    have b5 : Below w.heap.size w wc0 := b0.trans (hbc0.mono (by simp; omega))
    have b6 : Below w.heap.size w wc1 := b5.trans (hbc1.mono (by have := b5.size; omega))
    go_wp2
    go_ret2
    exact ⟨rfl, b6⟩
  · go_enter Try.func78, Try.ntmps78
    go_wp2_with fail
    go_region_held3 (fun w' => w'.cell? ⟨w.heap.size, 0, none⟩ = some (.int .i64 (f 0)) ∧ w'.cell? ⟨w.heap.size, 1, none⟩ = some (.int .i64 (f 1)) ∧ w'.cell? ⟨w.heap.size, 2, none⟩ = some (.int .i64 (f 2)) ∧ w'.cell? ⟨w.heap.size + 1, 0, none⟩ = some (.int .i64 (g 0)) ∧ w'.cell? ⟨w.heap.size + 1, 1, none⟩ = some (.int .i64 (g 1)) ∧ w'.cell? ⟨w.heap.size + 1, 2, none⟩ = some (.int .i64 (g 2))) (first | go_keep | (exact ⟨s0, s1, s2, s3, s4, s5⟩)) (first | (go_at_call 92; ((with_reducible refine (impl_colorAt f 2 _).mono ?_); rintro e wc0 ⟨rfl, hbc0⟩); replace hbc0 := below_drew hbc0; obtain ⟨hcc0, hfc0⟩ := bcell hbc0; have zc0 := hbc0.size; have s0 := (hcc0 (w.heap.size) 0 (by simp <;> omega)).trans fc0; have s1 := (hcc0 (w.heap.size) 1 (by simp <;> omega)).trans fc1; have s2 := (hcc0 (w.heap.size) 2 (by simp <;> omega)).trans fc2; have s3 := (hcc0 (w.heap.size + 1) 0 (by simp <;> omega)).trans gc0; have s4 := (hcc0 (w.heap.size + 1) 1 (by simp <;> omega)).trans gc1; have s5 := (hcc0 (w.heap.size + 1) 2 (by simp <;> omega)).trans gc2; have zz := zc0; simp at zz) | (go_at_call 92; ((with_reducible refine (impl_colorAt g 0 _).mono ?_); rintro e wc1 ⟨rfl, hbc1⟩); obtain ⟨hcc1, hfc1⟩ := bcell hbc1; have zc1 := hbc1.size; have s0 := (hcc1 (w.heap.size) 0 (by omega)).trans s0; have s1 := (hcc1 (w.heap.size) 1 (by omega)).trans s1; have s2 := (hcc1 (w.heap.size) 2 (by omega)).trans s2; have s3 := (hcc1 (w.heap.size + 1) 0 (by omega)).trans s3; have s4 := (hcc1 (w.heap.size + 1) 1 (by omega)).trans s4; have s5 := (hcc1 (w.heap.size + 1) 2 (by omega)).trans s5))
    clear fc0 fc1 fc2 gc0 gc1 gc2
    have b5 : Below w.heap.size w wc0 := b0.trans (hbc0.mono (by simp; omega))
    have b6 : Below w.heap.size w wc1 := b5.trans (hbc1.mono (by have := b5.size; omega))
    go_wp2
    go_ret2
    exact ⟨rfl, b6⟩
set_option maxHeartbeats 4000000 in
theorem spec_sides (f g : Nat → Int) (up : Bool) (w : World) : Calls Try.prog 95 #[.agg #[.int .i64 (f 0), .int .i64 (f 1), .int .i64 (f 2)], .agg #[.int .i64 (g 0), .int .i64 (g 1), .int .i64 (g 2)], .bool up] w fun e w' => e = .returned (.tuple #[.int .i64 (colorAt f (if up then 2 else 3)), .int .i64 (colorAt g (if up then 0 else 1))]) ∧ Below w.heap.size w w' := by
  have b0 : Below w.heap.size w ((w.alloc (.cells #[.int .i64 (f 0), .int .i64 (f 1), .int .i64 (f 2)] 56)).alloc (.cells #[.int .i64 (g 0), .int .i64 (g 1), .int .i64 (g 2)] 56)) := ((Below.refl _ _).alloc (Nat.le_refl _) _).alloc (by simp) _
  have fc0 : ((w.alloc (.cells #[.int .i64 (f 0), .int .i64 (f 1), .int .i64 (f 2)] 56)).alloc (.cells #[.int .i64 (g 0), .int .i64 (g 1), .int .i64 (g 2)] 56)).cell? ⟨w.heap.size, 0, none⟩ = some (.int .i64 (f 0)) := by go_simp
  have fc1 : ((w.alloc (.cells #[.int .i64 (f 0), .int .i64 (f 1), .int .i64 (f 2)] 56)).alloc (.cells #[.int .i64 (g 0), .int .i64 (g 1), .int .i64 (g 2)] 56)).cell? ⟨w.heap.size, 1, none⟩ = some (.int .i64 (f 1)) := by go_simp
  have fc2 : ((w.alloc (.cells #[.int .i64 (f 0), .int .i64 (f 1), .int .i64 (f 2)] 56)).alloc (.cells #[.int .i64 (g 0), .int .i64 (g 1), .int .i64 (g 2)] 56)).cell? ⟨w.heap.size, 2, none⟩ = some (.int .i64 (f 2)) := by go_simp
  have gc0 : ((w.alloc (.cells #[.int .i64 (f 0), .int .i64 (f 1), .int .i64 (f 2)] 56)).alloc (.cells #[.int .i64 (g 0), .int .i64 (g 1), .int .i64 (g 2)] 56)).cell? ⟨w.heap.size + 1, 0, none⟩ = some (.int .i64 (g 0)) := by go_simp
  have gc1 : ((w.alloc (.cells #[.int .i64 (f 0), .int .i64 (f 1), .int .i64 (f 2)] 56)).alloc (.cells #[.int .i64 (g 0), .int .i64 (g 1), .int .i64 (g 2)] 56)).cell? ⟨w.heap.size + 1, 1, none⟩ = some (.int .i64 (g 1)) := by go_simp
  have gc2 : ((w.alloc (.cells #[.int .i64 (f 0), .int .i64 (f 1), .int .i64 (f 2)] 56)).alloc (.cells #[.int .i64 (g 0), .int .i64 (g 1), .int .i64 (g 2)] 56)).cell? ⟨w.heap.size + 1, 2, none⟩ = some (.int .i64 (g 2)) := by go_simp
  cases up
  · go_enter Try.func95, Try.ntmps95
    go_wp2_with fail
    go_region_held3 (fun w' => w'.cell? ⟨w.heap.size, 0, none⟩ = some (.int .i64 (f 0)) ∧ w'.cell? ⟨w.heap.size, 1, none⟩ = some (.int .i64 (f 1)) ∧ w'.cell? ⟨w.heap.size, 2, none⟩ = some (.int .i64 (f 2)) ∧ w'.cell? ⟨w.heap.size + 1, 0, none⟩ = some (.int .i64 (g 0)) ∧ w'.cell? ⟨w.heap.size + 1, 1, none⟩ = some (.int .i64 (g 1)) ∧ w'.cell? ⟨w.heap.size + 1, 2, none⟩ = some (.int .i64 (g 2))) (first | go_keep | (exact ⟨s0, s1, s2, s3, s4, s5⟩)) (first | (go_at_call 90; ((with_reducible refine (spec_colorAt f 3 _).mono ?_); rintro e wc0 ⟨rfl, hbc0⟩); replace hbc0 := below_drew hbc0; obtain ⟨hcc0, hfc0⟩ := bcell hbc0; have zc0 := hbc0.size; have s0 := (hcc0 (w.heap.size) 0 (by simp <;> omega)).trans fc0; have s1 := (hcc0 (w.heap.size) 1 (by simp <;> omega)).trans fc1; have s2 := (hcc0 (w.heap.size) 2 (by simp <;> omega)).trans fc2; have s3 := (hcc0 (w.heap.size + 1) 0 (by simp <;> omega)).trans gc0; have s4 := (hcc0 (w.heap.size + 1) 1 (by simp <;> omega)).trans gc1; have s5 := (hcc0 (w.heap.size + 1) 2 (by simp <;> omega)).trans gc2; have zz := zc0; simp at zz) | (go_at_call 90; ((with_reducible refine (spec_colorAt g 1 _).mono ?_); rintro e wc1 ⟨rfl, hbc1⟩); obtain ⟨hcc1, hfc1⟩ := bcell hbc1; have zc1 := hbc1.size; have s0 := (hcc1 (w.heap.size) 0 (by omega)).trans s0; have s1 := (hcc1 (w.heap.size) 1 (by omega)).trans s1; have s2 := (hcc1 (w.heap.size) 2 (by omega)).trans s2; have s3 := (hcc1 (w.heap.size + 1) 0 (by omega)).trans s3; have s4 := (hcc1 (w.heap.size + 1) 1 (by omega)).trans s4; have s5 := (hcc1 (w.heap.size + 1) 2 (by omega)).trans s5))
    clear fc0 fc1 fc2 gc0 gc1 gc2
    have b5 : Below w.heap.size w wc0 := b0.trans (hbc0.mono (by simp; omega))
    have b6 : Below w.heap.size w wc1 := b5.trans (hbc1.mono (by have := b5.size; omega))
    go_wp2
    go_ret2
    exact ⟨rfl, b6⟩
  · go_enter Try.func95, Try.ntmps95
    go_wp2_with fail
    go_region_held3 (fun w' => w'.cell? ⟨w.heap.size, 0, none⟩ = some (.int .i64 (f 0)) ∧ w'.cell? ⟨w.heap.size, 1, none⟩ = some (.int .i64 (f 1)) ∧ w'.cell? ⟨w.heap.size, 2, none⟩ = some (.int .i64 (f 2)) ∧ w'.cell? ⟨w.heap.size + 1, 0, none⟩ = some (.int .i64 (g 0)) ∧ w'.cell? ⟨w.heap.size + 1, 1, none⟩ = some (.int .i64 (g 1)) ∧ w'.cell? ⟨w.heap.size + 1, 2, none⟩ = some (.int .i64 (g 2))) (first | go_keep | (exact ⟨s0, s1, s2, s3, s4, s5⟩)) (first | (go_at_call 90; ((with_reducible refine (spec_colorAt f 2 _).mono ?_); rintro e wc0 ⟨rfl, hbc0⟩); replace hbc0 := below_drew hbc0; obtain ⟨hcc0, hfc0⟩ := bcell hbc0; have zc0 := hbc0.size; have s0 := (hcc0 (w.heap.size) 0 (by simp <;> omega)).trans fc0; have s1 := (hcc0 (w.heap.size) 1 (by simp <;> omega)).trans fc1; have s2 := (hcc0 (w.heap.size) 2 (by simp <;> omega)).trans fc2; have s3 := (hcc0 (w.heap.size + 1) 0 (by simp <;> omega)).trans gc0; have s4 := (hcc0 (w.heap.size + 1) 1 (by simp <;> omega)).trans gc1; have s5 := (hcc0 (w.heap.size + 1) 2 (by simp <;> omega)).trans gc2; have zz := zc0; simp at zz) | (go_at_call 90; ((with_reducible refine (spec_colorAt g 0 _).mono ?_); rintro e wc1 ⟨rfl, hbc1⟩); obtain ⟨hcc1, hfc1⟩ := bcell hbc1; have zc1 := hbc1.size; have s0 := (hcc1 (w.heap.size) 0 (by omega)).trans s0; have s1 := (hcc1 (w.heap.size) 1 (by omega)).trans s1; have s2 := (hcc1 (w.heap.size) 2 (by omega)).trans s2; have s3 := (hcc1 (w.heap.size + 1) 0 (by omega)).trans s3; have s4 := (hcc1 (w.heap.size + 1) 1 (by omega)).trans s4; have s5 := (hcc1 (w.heap.size + 1) 2 (by omega)).trans s5))
    clear fc0 fc1 fc2 gc0 gc1 gc2
    have b5 : Below w.heap.size w wc0 := b0.trans (hbc0.mono (by simp; omega))
    have b6 : Below w.heap.size w wc1 := b5.trans (hbc1.mono (by have := b5.size; omega))
    go_wp2
    go_ret2
    exact ⟨rfl, b6⟩
end Go.Proofs.Ythenjmjnooaokaa
