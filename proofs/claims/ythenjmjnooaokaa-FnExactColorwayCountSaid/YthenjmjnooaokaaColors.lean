/- Contracts of ColorsOf and ColorwayCount: the program's and the reference's. -/
import Derived.Test.YthenjmjnooaokaaBlock
import Derived.Test.YthenjmjnooaokaaPureCw
import Derived.Test.YthenjmjnooaokaaApp
namespace Go.Proofs.Ythenjmjnooaokaa
open Go.ChangeShapes Go.WideShapes Go.ChangeAt Go.RowKit
set_option maxHeartbeats 4000000 in
theorem impl_cellArea (f : Nat → Int) (a : Int) (w : World) (hF : cellOk f = true) :
    Calls Try.prog 107 #[.agg #[.int .i64 (f 0), .int .i64 (f 1), .int .i64 (f 2)], .int .i64 a] w fun e w' => e = .returned (.int .i64 (cellArea f a)) ∧ Below w.heap.size w w' := by
  have hb0 : Below w.heap.size w (w.alloc (.cells #[.int .i64 (f 0), .int .i64 (f 1), .int .i64 (f 2)] 56)) := (Below.refl _ _).alloc (Nat.le_refl _) _
  have f0 : Box3 (w.alloc (.cells #[.int .i64 (f 0), .int .i64 (f 1), .int .i64 (f 2)] 56)) w.heap.size f := ⟨by simp, by go_simp, by go_simp, by go_simp⟩
  rcases Bool.eq_false_or_eq_true (f 1 == a) with x | x <;> rcases Bool.eq_false_or_eq_true (f 2 == a) with y | y
  all_goals
    have HE := Lib.hid (show cellArea f a = (if (f 1 == a) = true then 2 else 0) + (if (f 2 == a) = true then 2 else 0) from rfl)
    rw [x, y] at HE
    go_enter Try.func107, Try.ntmps107
    go_wp2_with fail
    refine (impl_cellOk f _).mono ?_
    rintro e w1 ⟨rfl, hb1⟩
    rw [hF]
    have f1 := f0.below hb1 (by simp)
    have hb2 := hb0.trans (hb1.mono (by simp))
    clear f0 hb0 hb1
    obtain ⟨fz, fc0, fc1, fc2⟩ := id f1
    go_wp2_with fail
    refine (impl_cellOk f _).mono ?_
    rintro e w2 ⟨rfl, hb3⟩
    rw [hF]
    have f2 := f1.below hb3 fz
    have hb4 := hb2.trans (hb3.mono (by omega))
    clear f1 hb2 hb3 fz fc0 fc1 fc2
    obtain ⟨fz, fc0, fc1, fc2⟩ := id f2
    go_wp2
    go_ret
    exact ⟨ret_int (by rw [HE.out]; rfl), hb4⟩
set_option maxHeartbeats 4000000 in
theorem impl_area (s : Int) (A : Option Addr) (n c : Nat) (f : Nat → Nat → Int) (a : Int) (B : Nat) (w : World) (h : RowP 3 w B A n c f) (hB : B ≤ w.heap.size) (hO : blockOk s n f = true) :
    Calls Try.prog 94 #[.agg #[.int .i64 s, .slice A n c], .int .i64 a] w fun e w' => e = .returned (.int .i64 (areaSum f a n)) ∧ Below w.heap.size w w' := by
  have hcap := h.cap
  unfold maxLen at hcap
  have hP := block_of hO
  have n16 := hP.n16
  have HK := Lib.hid hP.ok
  have hb0 : Below w.heap.size w (w.alloc (.cells #[.int .i64 s, .slice A n c] 31)) := (Below.refl _ _).alloc (Nat.le_refl _) _
  have hx0 : BoxB (w.alloc (.cells #[.int .i64 s, .slice A n c] 31)) w.heap.size s (.slice A n c) := ⟨by simp, by go_simp, by go_simp⟩
  have h0 : RowP 3 (w.alloc (.cells #[.int .i64 s, .slice A n c] 31)) B A n c f := h.keep fun p hp => hb0.cell (by omega)
  have HO := Lib.hid hO
  clear hO hP
  go_enter Try.func94, Try.ntmps94
  go_wp2_with fail
  refine (impl_blockOk s A n c f B _ h0 (by simp; omega)).mono ?_
  rintro e w1 ⟨rfl, hb1⟩
  rw [HO.out]
  have hx1 := hx0.below hb1 (by simp)
  have hb2 := hb0.trans (hb1.mono (by simp))
  clear hb0 hb1 hx0 h0
  obtain ⟨xz, xc0, xc1⟩ := id hx1
  go_wp2_with fail
  clear xz xc0 xc1 hx1
  go_loopw [5, 7, 14] (fun v _ i wr => ∃ k : Nat, k ≤ n ∧ i = .int .i64 k ∧ v = .int .i64 (areaSum f a k) ∧ Below w.heap.size w wr) (fun _ _ i _ => n - (intOf i).toNat)
  case atStart => exact ⟨0, by omega, rfl, rfl, hb2⟩
  case round =>
    clear hb2
    obtain ⟨k, hk, rfl, rfl, hb⟩ := hrel
    have hbw := hb.size
    have hbd := areaSum_bd f a k
    by_cases hlt : k < n
    · have h2 : RowP 3 wr B A n c f := h.keep fun p hp => hb.cell (by omega)
      obtain ⟨b, off, rfl, hbB, hc⟩ := h2.at_ hlt
      have x0 : wr.cell? ⟨b, off + k * 3, none⟩ = some (.int .i64 (f k 0)) := by exact hc 0 (by omega)
      have x1 : wr.cell? ⟨b, off + k * 3 + 1, none⟩ = some (.int .i64 (f k 1)) := by rw [Nat.add_assoc]; exact hc 1 (by omega)
      have x2 : wr.cell? ⟨b, off + k * 3 + 2, none⟩ = some (.int .i64 (f k 2)) := by rw [Nat.add_assoc]; exact hc 2 (by omega)
      have k0 : (0 : Int) ≤ (k : Int) := by omega
      have k3 : (k : Int) < (n : Int) := by omega
      have hcd := cellArea_bd (f k) a
      have HS := Lib.hid (show areaSum f a (k + 1) = areaSum f a k + cellArea (f k) a from rfl)
      have hok := HK.out k hlt
      have HOK := Lib.hid hok
      clear hc h2 hok
      go_wp2_with fail
      refine (impl_cellArea (f k) a _ HOK.out).mono ?_
      rintro e w2 ⟨rfl, hb2⟩
      have hb3 := (hb.alloc hb.size (.cells #[.int .i64 (f k 0), .int .i64 (f k 1), .int .i64 (f k 2)] 56)).trans (hb2.mono (by simp; omega))
      clear hb hb2 x0 x1 x2
      go_wp2
      go_roundw
      case rel => exact ⟨k + 1, by omega, by go_num, by rw [HS.out], hb3⟩
      case measure => simp [intOf]; omega
    · obtain rfl : k = n := by omega
      have k3 : ¬ (k : Int) < (k : Int) := by omega
      go_wp2
      go_ret
      exact ⟨rfl, hb⟩
set_option maxHeartbeats 4000000 in
theorem impl_colors (s : Int) (A : Option Addr) (n c : Nat) (f : Nat → Nat → Int) (R : List Int) (B : Nat) (w : World) (h : RowP 3 w B A n c f) (hB : B ≤ w.heap.size) (hR : Hid (R = colorsOf s n f)) :
    Calls Try.prog 63 #[.agg #[.int .i64 s, .slice A n c]] w fun e w' => ∃ A2 c2, e = .returned (.slice A2 R.length c2) ∧ OwnI w' w.heap.size (.slice A2 R.length c2) R ∧ Below w.heap.size w w' := by
  have hcap := h.cap
  unfold maxLen at hcap
  have hb0 : Below w.heap.size w (w.alloc (.cells #[.int .i64 s, .slice A n c] 31)) := (Below.refl _ _).alloc (Nat.le_refl _) _
  have hx0 : BoxB (w.alloc (.cells #[.int .i64 s, .slice A n c] 31)) w.heap.size s (.slice A n c) := ⟨by simp, by go_simp, by go_simp⟩
  have h0 : RowP 3 (w.alloc (.cells #[.int .i64 s, .slice A n c] 31)) B A n c f := h.keep fun p hp => hb0.cell (by omega)
  rcases Bool.eq_false_or_eq_true (blockOk s n f) with hO | hO
  · have HR := Lib.hid (show R = colorsN f n by rw [hR.out]; unfold colorsOf; rw [hO]; rfl)
    have HO := Lib.hid hO
    clear hO
    obtain ⟨p, hp⟩ : ∃ p, p = (fun a => usedTo f a n) := ⟨_, rfl⟩
    have HM := Lib.hid (show R = membs p 6 by rw [HR.out, hp]; rfl)
    have HA := Lib.hid (fun a : Nat => (show decide (0 < areaSum f a n) = p a by rw [hp]; exact area_used f a n))
    clear hp
    go_enter Try.func63, Try.ntmps63
    go_wp2_with fail
    refine (impl_blockOk s A n c f B _ h0 (by simp; omega)).mono ?_
    rintro e w1 ⟨rfl, hb1⟩
    rw [HO.out]
    have hx1 := hx0.below hb1 (by simp)
    have hb2 := hb0.trans (hb1.mono (by simp))
    clear hb0 hb1 hx0 h0
    obtain ⟨xz, xc0, xc1⟩ := id hx1
    go_wp2_with fail
    clear xz xc0 xc1
    go_loopw [3, 4, 9] (fun v _ i wr => ∃ (k : Nat) (A2 : Option Addr) (m c2 : Nat), k ≤ 6 ∧ i = .int .i64 k ∧ v = .slice A2 m c2 ∧ OwnI wr (w.heap.size + 1) (.slice A2 m c2) (membs p k) ∧ BoxB wr w.heap.size s (.slice A n c) ∧ Below w.heap.size w wr) (fun _ _ i _ => 6 - (intOf i).toNat)
    case atStart => exact ⟨0, _, 0, _, by omega, rfl, rfl, (own_empty w1).base (by have := hx1.1; omega), hx1.below ((Below.refl _ _).alloc (Nat.le_refl _) _) hx1.1, hb2.alloc hb2.size _⟩
    case round =>
      clear hb2 hx1
      obtain ⟨k, A2, m, c2, hk, rfl, rfl, hown, hx, hb⟩ := hrel
      have hbw := hb.size
      have hlen := Lib.hid hown.form.1
      have hml : m ≤ 6 := by have := hlen.out; have := membs_len p k; omega
      obtain ⟨xz, xc0, xc1⟩ := id hx
      by_cases hlt : k < 6
      · have h2 : RowP 3 wr B A n c f := h.keep fun p hp => hb.cell (by omega)
        have k0 : (0 : Int) ≤ (k : Int) := by omega
        have k3 : (k : Int) < 6 := by omega
        have hd := HA.out k
        have HMs := Lib.hid (membs_succ p k)
        go_wp2_with fail
        refine (impl_area s A n c f k B _ h2 (by omega) HO.out).mono ?_
        rintro e w2 ⟨rfl, hb2⟩
        have hown2 := hown.keep hb2
        have hx2 := hx.below hb2 xz
        have hb3 := hb.trans (hb2.mono (by omega))
        have hz3 := hb3.size
        clear hb hb2 hown hx xz xc0 xc1 h2
        rcases Bool.eq_false_or_eq_true (p k) with q | q
        · rw [q] at hd
          have hd2 := of_decide_eq_true hd
          have HS := Lib.hid (show membs p (k + 1) = membs p k ++ [(k : Int)] by rw [HMs.out, if_pos q])
          clear q hd
          go_wp2_with (at_builtin; refine app_shape rfl _ _ rfl (w.heap.size + 1) _ (membs p k) (k : Int) w2.heap.size m (hlen.out.symm) rfl (hown2.alloc _) rfl (heap_alloc_new w2 _) (by rw [← hlen.out]; omega) (by have := hx2.1; simp; omega) ?_; intro A4 c4 w4 ho4 hb4)
          rw [← HS.out] at ho4
          have hx4 : BoxB w4 w.heap.size s (.slice A n c) := (hx2.below ((Below.refl _ _).alloc (Nat.le_refl _) _) hx2.1).below hb4 (by omega)
          have hb5 := (hb3.alloc hb3.size _).trans (hb4.mono (by omega))
          clear hb4 hown2 hb3 hx2
          go_wp2
          go_roundw
          case rel => exact ⟨k + 1, A4, m + 1, c4, by omega, by go_num, rfl, ho4, hx4, hb5⟩
          case measure => simp [intOf]; omega
        · rw [q] at hd
          have hd2 := of_decide_eq_false hd
          have HS := Lib.hid (show membs p (k + 1) = membs p k by rw [HMs.out, if_neg (by rw [q]; simp), List.append_nil])
          rw [← HS.out] at hown2
          clear q hd
          go_wp2
          go_roundw
          case rel => exact ⟨k + 1, A2, m, c2, by omega, by go_num, rfl, hown2, hx2, hb3⟩
          case measure => simp [intOf]; omega
      · have HE := Lib.hid (show membs p k = R by rw [HM.out, show k = 6 by omega])
        rw [HE.out] at hown
        have hlen2 := Lib.hid hown.form.1
        have k3 : ¬ (k : Int) < 6 := by omega
        go_wp2
        go_ret
        rw [← hlen2.out]
        exact ⟨A2, c2, rfl, hown.base (by omega), hb⟩
  · have HR := Lib.hid (show R = [] by rw [hR.out]; unfold colorsOf; rw [hO]; rfl)
    go_enter Try.func63, Try.ntmps63
    go_wp2_with fail
    refine (impl_blockOk s A n c f B _ h0 (by simp; omega)).mono ?_
    rintro e w1 ⟨rfl, hb1⟩
    rw [hO]
    have hb2 := hb0.trans (hb1.mono (by simp))
    clear hb0 hb1 hx0 h0 hO
    go_wp2
    go_ret
    rw [HR.out]
    exact ⟨none, 0, rfl, own_nil _ _, hb2⟩
set_option maxHeartbeats 4000000 in
theorem spec_colors (s : Int) (A : Option Addr) (n c : Nat) (f : Nat → Nat → Int) (R : List Int) (B : Nat) (w : World) (h : RowP 3 w B A n c f) (hB : B ≤ w.heap.size) (hR : Hid (R = colorsOf s n f)) :
    Calls Try.prog 61 #[.agg #[.int .i64 s, .slice A n c]] w fun e w' => ∃ A2 c2, e = .returned (.slice A2 R.length c2) ∧ OwnI w' w.heap.size (.slice A2 R.length c2) R ∧ Below w.heap.size w w' := by
  have hcap := h.cap
  unfold maxLen at hcap
  obtain ⟨we, hwe⟩ : ∃ we, we = (w.alloc (.cells #[.int .i64 s, .slice A n c] 31)).alloc (.cells #[] 3) := ⟨_, rfl⟩
  have hb0 : Below w.heap.size w we := by rw [hwe]; exact ((Below.refl _ _).alloc (Nat.le_refl _) _).alloc (by simp) _
  have hx0 : BoxB we w.heap.size s (.slice A n c) := by rw [hwe]; exact ⟨by simp <;> omega, by go_simp, by go_simp⟩
  have ho0 : OwnI we (w.heap.size + 1) (.slice (some ⟨w.heap.size + 1, 0, none⟩) 0 0) [] := by rw [hwe]; simpa using own_empty (w.alloc (.cells #[.int .i64 s, .slice A n c] 31))
  have h0 : RowP 3 we B A n c f := h.keep fun p hp => hb0.cell (by omega)
  have hz0 : w.heap.size + 1 < we.heap.size := by rw [hwe]; simp
  rcases Bool.eq_false_or_eq_true (blockOk s n f) with hO | hO
  · have hP := block_of hO
    have n16 := hP.n16
    have HR := Lib.hid (show R = colorsN f n by rw [hR.out]; unfold colorsOf; rw [hO]; rfl)
    have HO := Lib.hid hO
    clear hO hP
    obtain ⟨p, hp⟩ : ∃ p, p = (fun a => usedTo f a n) := ⟨_, rfl⟩
    have HM := Lib.hid (show R = membs p 6 by rw [HR.out, hp]; rfl)
    have HA := Lib.hid (fun a : Nat => (show usedTo f a n = p a by rw [hp]))
    clear hp
    go_enter Try.func61, Try.ntmps61
    go_wp2_with fail
    rw [← hwe]
    clear hwe
    refine (spec_blockOk s A n c f B _ h0 (by omega)).mono ?_
    rintro e w1 ⟨rfl, hb1⟩
    rw [HO.out]
    have hx1 := hx0.below hb1 (by omega)
    have ho1 := ho0.keep hb1
    have hb2 := hb0.trans (hb1.mono (by omega))
    clear hb0 hb1 hx0 h0 ho0 hz0
    obtain ⟨xz, xc0, xc1⟩ := id hx1
    go_wp2_with fail
    clear xz xc0 xc1
    go_loopw [3, 4, 5, 6] (fun v i _ _ wr => ∃ (k : Nat) (A2 : Option Addr) (m c2 : Nat), k ≤ 6 ∧ i = .int .i64 k ∧ v = .slice A2 m c2 ∧ OwnI wr (w.heap.size + 1) (.slice A2 m c2) (membs p k) ∧ BoxB wr w.heap.size s (.slice A n c) ∧ Below w.heap.size w wr) (fun _ i _ _ _ => 6 - (intOf i).toNat)
    case atStart => exact ⟨0, _, 0, _, by omega, rfl, rfl, ho1, hx1, hb2⟩
    case round =>
      clear hb2 hx1 ho1
      obtain ⟨k, A2, m, c2, hk, rfl, rfl, hown, hx, hb⟩ := hrel
      have hbw := hb.size
      have hlen := Lib.hid hown.form.1
      have hml : m ≤ 6 := by have := hlen.out; have := membs_len p k; omega
      obtain ⟨xz, xc0, xc1⟩ := id hx
      by_cases hlt : k < 6
      · have h2 : RowP 3 wr B A n c f := h.keep fun p hp => hb.cell (by omega)
        have k0 : (0 : Int) ≤ (k : Int) := by omega
        have k3 : (k : Int) < 6 := by omega
        have HMs := Lib.hid (membs_succ p k)
        have HD := Lib.hid (HA.out k)
        go_wp2_with fail
        go_loop [5, 6] (fun u i => ∃ (j : Nat) (b : Bool), j ≤ n ∧ i = .int .i64 j ∧ u = .bool b ∧ Hid (usedTo f k j = b)) (fun _ i => n - (intOf i).toNat)
        case atStart => exact ⟨0, false, by omega, rfl, rfl, Lib.hid rfl⟩
        case round =>
          obtain ⟨j, u, hj, rfl, rfl, hU⟩ := hrel
          by_cases hjn : j < n
          · obtain ⟨b, off, rfl, hbB, hc⟩ := h2.at_ hjn
            have x1 : wr.cell? ⟨b, off + j * 3 + 1, none⟩ = some (.int .i64 (f j 1)) := by rw [Nat.add_assoc]; exact hc 1 (by omega)
            have x2 : wr.cell? ⟨b, off + j * 3 + 2, none⟩ = some (.int .i64 (f j 2)) := by rw [Nat.add_assoc]; exact hc 2 (by omega)
            have j0 : (0 : Int) ≤ (j : Int) := by omega
            have j3 : (j : Int) < (n : Int) := by omega
            have HU := Lib.hid (show usedTo f k (j + 1) = (usedTo f k j || (f j 1 == (k : Int)) || (f j 2 == (k : Int))) from rfl)
            clear hc
            cases u
            · rcases Bool.eq_false_or_eq_true (f j 1 == (k : Int)) with x | x
              · have HS := Lib.hid (show usedTo f k (j + 1) = true by rw [HU.out, x, Bool.or_true, Bool.true_or])
                go_wp2
                go_round
                case rel => exact ⟨j + 1, true, by omega, by go_num, rfl, HS⟩
                case measure => simp [intOf]; omega
              · rcases Bool.eq_false_or_eq_true (f j 2 == (k : Int)) with y | y
                · have HS := Lib.hid (show usedTo f k (j + 1) = true by rw [HU.out, y, Bool.or_true])
                  go_wp2
                  go_round
                  case rel => exact ⟨j + 1, true, by omega, by go_num, rfl, HS⟩
                  case measure => simp [intOf]; omega
                · have HS := Lib.hid (show usedTo f k (j + 1) = false by rw [HU.out, x, y, hU.out]; rfl)
                  go_wp2
                  go_round
                  case rel => exact ⟨j + 1, false, by omega, by go_num, rfl, HS⟩
                  case measure => simp [intOf]; omega
            · have HS := Lib.hid (show usedTo f k (j + 1) = true by rw [HU.out, hU.out]; rfl)
              go_wp2
              go_round
              case rel => exact ⟨j + 1, true, by omega, by go_num, rfl, HS⟩
              case measure => simp [intOf]; omega
          · have j3 : ¬ (j : Int) < (n : Int) := by omega
            have HU := Lib.hid (show p k = u by rw [← HD.out, ← hU.out, show j = n by omega])
            cases u
            · have HS := Lib.hid (show membs p (k + 1) = membs p k by rw [HMs.out, if_neg (by rw [HU.out]; simp), List.append_nil])
              rw [← HS.out] at hown
              go_wp2
              go_roundw
              case rel => exact ⟨k + 1, A2, m, c2, by omega, by go_num, rfl, hown, hx, hb⟩
              case measure => simp [intOf]; omega
            · have HS := Lib.hid (show membs p (k + 1) = membs p k ++ [(k : Int)] by rw [HMs.out, if_pos HU.out])
              go_wp2_with (at_builtin; refine app_shape rfl _ _ rfl (w.heap.size + 1) _ (membs p k) (k : Int) wr.heap.size m (hlen.out.symm) rfl (hown.alloc _) rfl (heap_alloc_new wr _) (by rw [← hlen.out]; omega) (by simp; omega) ?_; intro A4 c4 w4 ho4 hb4)
              rw [← HS.out] at ho4
              have hx4 : BoxB w4 w.heap.size s (.slice A n c) := (hx.below ((Below.refl _ _).alloc (Nat.le_refl _) _) hx.1).below hb4 (by omega)
              have hb5 := (hb.alloc hb.size _).trans (hb4.mono (by omega))
              clear hb4 hown hb hx
              go_wp2
              go_roundw
              case rel => exact ⟨k + 1, A4, m + 1, c4, by omega, by go_num, rfl, ho4, hx4, hb5⟩
              case measure => simp [intOf]; omega
      · have HE := Lib.hid (show membs p k = R by rw [HM.out, show k = 6 by omega])
        rw [HE.out] at hown
        have hlen2 := Lib.hid hown.form.1
        have k3 : ¬ (k : Int) < 6 := by omega
        go_wp2
        go_ret
        rw [← hlen2.out]
        exact ⟨A2, c2, rfl, hown.base (by omega), hb⟩
  · have HR := Lib.hid (show R = [] by rw [hR.out]; unfold colorsOf; rw [hO]; rfl)
    go_enter Try.func61, Try.ntmps61
    go_wp2_with fail
    rw [← hwe]
    clear hwe
    refine (spec_blockOk s A n c f B _ h0 (by omega)).mono ?_
    rintro e w1 ⟨rfl, hb1⟩
    rw [hO]
    have ho1 := ho0.keep hb1
    have hb2 := hb0.trans (hb1.mono (by omega))
    clear hb0 hb1 hx0 h0 hO
    go_wp2
    go_ret
    rw [HR.out]
    exact ⟨_, _, rfl, ho1.base (by omega), hb2⟩
set_option maxHeartbeats 2000000 in
theorem choices_any (n : Nat) (w : World) (hn : n ≤ 6) : Calls Try.prog 62 #[.int .i64 n] w fun e w' => e = .returned (.int .i64 (choices n)) ∧ w = w' := by
  go_enter Try.func62, Try.ntmps62
  go_wp2_with fail
  go_loop [3, 4, 6] (fun v _ i => ∃ k : Nat, k ≤ n ∧ i = .int .i64 k ∧ v = .int .i64 (choices k)) (fun _ _ i => n - (intOf i).toNat)
  case atStart => exact ⟨0, by omega, rfl, rfl⟩
  case round =>
    obtain ⟨k, hk, rfl, rfl⟩ := hrel
    by_cases hlt : k < n
    · have h1 := choices_bd k (by omega)
      have h2 := choices_bd (k + 1) (by omega)
      have hs : choices (k + 1) = choices k * (6 - (k : Int)) := rfl
      rw [hs] at h2
      have HS := Lib.hid hs
      have k0 : (0 : Int) ≤ (k : Int) := by omega
      have k3 : (k : Int) < (n : Int) := by omega
      clear hs
      go_wp2
      go_round
      case rel => exact ⟨k + 1, by omega, by go_num, by rw [HS.out]⟩
      case measure => simp [intOf]; omega
    · obtain rfl : k = n := by omega
      have k3 : ¬ (k : Int) < (k : Int) := by omega
      go_wp2
      go_ret
      exact ⟨rfl, rfl⟩
set_option maxHeartbeats 4000000 in
theorem impl_ways (s : Int) (A : Option Addr) (n c : Nat) (f : Nat → Nat → Int) (B : Nat) (w : World) (h : RowP 3 w B A n c f) (hB : B ≤ w.heap.size) :
    Calls Try.prog 22 #[.agg #[.int .i64 s, .slice A n c]] w fun e w' => e = .returned (.int .i64 (colorways s n f)) ∧ Below w.heap.size w w' := by
  have hb0 : Below w.heap.size w (w.alloc (.cells #[.int .i64 s, .slice A n c] 31)) := (Below.refl _ _).alloc (Nat.le_refl _) _
  have hx0 : BoxB (w.alloc (.cells #[.int .i64 s, .slice A n c] 31)) w.heap.size s (.slice A n c) := ⟨by simp, by go_simp, by go_simp⟩
  have h0 : RowP 3 (w.alloc (.cells #[.int .i64 s, .slice A n c] 31)) B A n c f := h.keep fun p hp => hb0.cell (by omega)
  rcases Bool.eq_false_or_eq_true (blockOk s n f) with hO | hO
  · have HE := Lib.hid (show colorways s n f = choices (colorsN f n).length by unfold colorways; rw [hO]; rfl)
    have HO := Lib.hid hO
    have hl6 := colorsN_len f n
    obtain ⟨R, hR⟩ : ∃ R, R = colorsOf s n f := ⟨_, rfl⟩
    have hRc : R = colorsN f n := by rw [hR]; unfold colorsOf; rw [hO]; rfl
    rw [← hRc] at hl6
    have HR := Lib.hid hR
    have HRc := Lib.hid hRc
    clear hR hRc hO
    go_enter Try.func22, Try.ntmps22
    go_wp2_with fail
    refine (impl_blockOk s A n c f B _ h0 (by simp; omega)).mono ?_
    rintro e w1 ⟨rfl, hb1⟩
    rw [HO.out]
    have hx1 := hx0.below hb1 (by simp)
    have hb2 := hb0.trans (hb1.mono (by simp))
    have h1 : RowP 3 w1 B A n c f := h.keep fun p hp => hb2.cell (by omega)
    have hz2 := hb2.size
    clear hb0 hb1 hx0 h0
    obtain ⟨xz, xc0, xc1⟩ := id hx1
    go_wp2_with fail
    clear xz xc0 xc1 hx1
    refine (impl_colors s A n c f R B _ h1 (by omega) HR).mono ?_
    rintro e w2 ⟨A2, c2, rfl, ho2, hb3⟩
    have hb4 := hb2.trans (hb3.mono (by omega))
    clear hb2 hb3 ho2 h1
    go_wp2_with fail
    refine (choices_any R.length _ hl6).mono ?_
    rintro e w' ⟨rfl, rfl⟩
    go_wp2
    go_ret
    exact ⟨ret_int (by rw [HE.out, ← HRc.out]), hb4⟩
  · have HE := Lib.hid (show colorways s n f = 0 by unfold colorways; rw [hO]; rfl)
    go_enter Try.func22, Try.ntmps22
    go_wp2_with fail
    refine (impl_blockOk s A n c f B _ h0 (by simp; omega)).mono ?_
    rintro e w1 ⟨rfl, hb1⟩
    rw [hO]
    have hb2 := hb0.trans (hb1.mono (by simp))
    clear hb0 hb1 hx0 h0 hO
    go_wp2
    go_ret
    exact ⟨ret_int HE.out.symm, hb2⟩
set_option maxHeartbeats 4000000 in
theorem spec_ways (s : Int) (A : Option Addr) (n c : Nat) (f : Nat → Nat → Int) (B : Nat) (w : World) (h : RowP 3 w B A n c f) (hB : B ≤ w.heap.size) :
    Calls Try.prog 21 #[.agg #[.int .i64 s, .slice A n c]] w fun e w' => e = .returned (.int .i64 (colorways s n f)) ∧ Below w.heap.size w w' := by
  have hb0 : Below w.heap.size w (w.alloc (.cells #[.int .i64 s, .slice A n c] 31)) := (Below.refl _ _).alloc (Nat.le_refl _) _
  have hx0 : BoxB (w.alloc (.cells #[.int .i64 s, .slice A n c] 31)) w.heap.size s (.slice A n c) := ⟨by simp, by go_simp, by go_simp⟩
  have h0 : RowP 3 (w.alloc (.cells #[.int .i64 s, .slice A n c] 31)) B A n c f := h.keep fun p hp => hb0.cell (by omega)
  rcases Bool.eq_false_or_eq_true (blockOk s n f) with hO | hO
  · have HE := Lib.hid (show colorways s n f = choices (colorsN f n).length by unfold colorways; rw [hO]; rfl)
    have HO := Lib.hid hO
    have hl6 := colorsN_len f n
    obtain ⟨R, hR⟩ : ∃ R, R = colorsOf s n f := ⟨_, rfl⟩
    have hRc : R = colorsN f n := by rw [hR]; unfold colorsOf; rw [hO]; rfl
    rw [← hRc] at hl6
    have HR := Lib.hid hR
    have HRc := Lib.hid hRc
    clear hR hRc hO
    go_enter Try.func21, Try.ntmps21
    go_wp2_with fail
    refine (spec_blockOk s A n c f B _ h0 (by simp; omega)).mono ?_
    rintro e w1 ⟨rfl, hb1⟩
    rw [HO.out]
    have hx1 := hx0.below hb1 (by simp)
    have hb2 := hb0.trans (hb1.mono (by simp))
    have h1 : RowP 3 w1 B A n c f := h.keep fun p hp => hb2.cell (by omega)
    have hz2 := hb2.size
    clear hb0 hb1 hx0 h0
    obtain ⟨xz, xc0, xc1⟩ := id hx1
    go_wp2_with fail
    clear xz xc0 xc1 hx1
    refine (spec_colors s A n c f R B _ h1 (by omega) HR).mono ?_
    rintro e w2 ⟨A2, c2, rfl, ho2, hb3⟩
    have hb4 := hb2.trans (hb3.mono (by omega))
    clear hb2 hb3 ho2 h1
    obtain ⟨m, hm⟩ : ∃ m, m = R.length := ⟨_, rfl⟩
    have HMm := Lib.hid hm
    rw [← hm] at hl6 ⊢
    clear hm
    go_wp2_with fail
    go_loop [4, 5] (fun v i => ∃ k : Nat, k ≤ m ∧ i = .int .i64 k ∧ v = .int .i64 (choices k)) (fun _ i => m - (intOf i).toNat)
    case atStart => exact ⟨0, by omega, rfl, rfl⟩
    case round =>
      obtain ⟨k, hk, rfl, rfl⟩ := hrel
      by_cases hlt : k < m
      · have h1 := choices_bd k (by omega)
        have h2 := choices_bd (k + 1) (by omega)
        have hs : choices (k + 1) = choices k * (6 - (k : Int)) := rfl
        rw [hs] at h2
        have HS := Lib.hid hs
        have k0 : (0 : Int) ≤ (k : Int) := by omega
        have k3 : (k : Int) < (m : Int) := by omega
        clear hs
        go_wp2
        go_round
        case rel => exact ⟨k + 1, by omega, by go_num, by rw [HS.out]⟩
        case measure => simp [intOf]; omega
      · have k3 : ¬ (k : Int) < (m : Int) := by omega
        have HK := Lib.hid (show choices k = colorways s n f by rw [HE.out, ← HRc.out, ← HMm.out, show k = m by omega])
        go_wp2
        go_ret
        exact ⟨ret_int HK.out, hb4⟩
  · have HE := Lib.hid (show colorways s n f = 0 by unfold colorways; rw [hO]; rfl)
    go_enter Try.func21, Try.ntmps21
    go_wp2_with fail
    refine (spec_blockOk s A n c f B _ h0 (by simp; omega)).mono ?_
    rintro e w1 ⟨rfl, hb1⟩
    rw [hO]
    have hb2 := hb0.trans (hb1.mono (by simp))
    clear hb0 hb1 hx0 h0 hO
    go_wp2
    go_ret
    exact ⟨ret_int HE.out.symm, hb2⟩
end Go.Proofs.Ythenjmjnooaokaa
