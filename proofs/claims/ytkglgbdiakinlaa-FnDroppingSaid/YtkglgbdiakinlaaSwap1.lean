/- Contracts of MakeSwap: the program's and the reference's. -/
import Derived.Test.YtkglgbdiakinlaaRii2
import Derived.Test.YtkglgbdiakinlaaPureP
import Derived.Outline
namespace Go.Proofs.Ytkglgbdiakinlaa
open Go.ChangeShapes Go.WideShapes Go.ChangeAt Go.RowKit
set_option maxHeartbeats 4000000 in
theorem impl_makeSwap (n : Int) (w : World) :
    Calls Try.prog 17 #[.int .i64 n] w fun e w' => ∃ A2 c2, e = .returned (.slice A2 (swapN n) c2) ∧ OwnII w' w.heap.size w'.heap.size (.slice A2 (swapN n) c2) (swapN n) (fun j => swapRow n.toNat j) ∧ Below w.heap.size w w' := by
  rcases inB_or n 2 10 with ⟨hI, i1, i2⟩ | hI
  · obtain ⟨m, rfl⟩ := Int.eq_ofNat_of_zero_le (show 0 ≤ n by omega)
    rw [Int.toNat_natCast, swapN_of (by omega) (by omega)]
    obtain ⟨M, hM⟩ : ∃ M, M = m - 1 := ⟨_, rfl⟩
    rw [← hM]
    have HM := Lib.hid hM
    clear hM
    have m1 : 2 ≤ m := by omega
    have m2 : m ≤ 10 := by omega
    go_enter Try.func17, Try.ntmps17
    go_wp2_with (go_at_call 51; refine (within_any _ _ _ _).mono ?_; rintro e w' ⟨rfl, rfl⟩)
    go_loopw [3, 4, 5, 6, 18] (fun v r _ _ _ wr => ∃ j : Nat, j + 1 ≤ m ∧ r = .int .i64 ((j : Int) + 1) ∧ OwnII wr w.heap.size wr.heap.size v j (fun j => swapRow m j) ∧ Below w.heap.size w wr) (fun _ r _ _ _ _ => m - (intOf r).toNat)
    case atStart => exact ⟨0, by omega, rfl, (ownII_empty w _).more (by simp), (Below.refl _ _).alloc (Nat.le_refl _) _⟩
    case round =>
      obtain ⟨j, hj, rfl, hown, hb⟩ := hrel
      by_cases hlt : j + 1 < m
      · have d1 : decide ((j : Int) + 1 < (m : Int)) = true := decide_eq_true (by omega)
        go_wp2_with fail
        obtain ⟨wo, rfl⟩ : ∃ wo : World, wo = wr := ⟨_, rfl⟩
        go_loopw [5, 6, 18] (fun u _ i wr => ∃ k : Nat, k ≤ m ∧ i = .int .i64 k ∧ ∃ A c, u = .slice A k c ∧ OwnI wr wo.heap.size (.slice A k c) ((swapRow m j).take k) ∧ Below wo.heap.size wo wr) (fun _ _ i _ => m - (intOf i).toNat)
        case atStart => exact ⟨0, by omega, rfl, _, _, rfl, own_empty wo, (Below.refl _ _).alloc (Nat.le_refl _) _⟩
        case round =>
          obtain ⟨k, hk, rfl, Au, cu, rfl, hrow, hb2⟩ := hrel
          by_cases hkl : k < m
          · have hsz := hb2.size
            have HT := Lib.hid (take_succ_nth (xs := swapRow m j) (k := k) (by rw [swapRow_len]; exact hkl))
            have HN := Lib.hid (nth_swapRow (n := m) (j := j) hkl)
            go_wp2_with (at_builtin; refine app_shape rfl _ _ rfl wo.heap.size _ ((swapRow m j).take k) (((k : Int) + ((j : Int) + 1)) % (m : Int)) wr.heap.size k (by rw [List.length_take, swapRow_len]; omega) rfl (hrow.alloc _) rfl (heap_alloc_new wr _) (by rw [List.length_take]; omega) (by simp; omega) ?_; intro A4 c4 w4 ho4 hb4)
            rw [← HN.out, ← HT.out] at ho4
            have hb5 := (hb2.alloc hb2.size _).trans hb4
            clear hb4 hrow hb2
            go_wp2
            go_roundw
            case rel => exact ⟨k + 1, by omega, by go_num, A4, c4, rfl, ho4, hb5⟩
            case measure => simp [intOf]; omega
          · obtain rfl : k = m := by omega
            have hsz := hb2.size
            have hrow2 := hrow
            rw [List.take_of_length_le (by rw [swapRow_len]; exact Nat.le_refl _)] at hrow2
            clear hrow
            have hown2 := hown.keep hb2
            have hbw := hb.size
            go_wp2_with (at_builtin; (refine appII_plain rfl _ _ rfl w.heap.size wo.heap.size j _ _ (fun j => swapRow k j) wr.heap.size rfl (ownII_alloc hown2 _) (hrow2.alloc _) hb.size rfl (heap_alloc_new wr _) (by omega) (by simp; omega) ?_); intro v4 w4 ho4 hb4)
            have hb5 := ((hb.trans (hb2.mono hb.size)).alloc (by omega) _).trans hb4
            clear hb4 hrow2 hb2 hown hown2
            go_wp2
            go_roundw
            case rel => exact ⟨j + 1, by omega, by go_num, ho4, hb5⟩
            case measure => simp [intOf]; omega
      · obtain rfl : j = M := by have := HM.out; omega
        obtain ⟨A2, c2, hv⟩ := hown.shape
        have HV := Lib.hid hv
        clear hv
        go_wp2
        go_ret
        rw [HV.out] at hown
        exact ⟨A2, c2, by rw [HV.out]; rfl, hown, hb⟩
  · rw [swapN_no hI]
    go_enter Try.func17, Try.ntmps17
    go_wp2_with (go_at_call 51; refine (within_any _ _ _ _).mono ?_; rintro e w' ⟨rfl, rfl⟩)
    go_ret
    exact ⟨none, 0, rfl, ownII_nil _ _ _ _, Below.refl _ _⟩
set_option maxHeartbeats 4000000 in
theorem spec_makeSwap (n : Int) (w : World) :
    Calls Try.prog 16 #[.int .i64 n] w fun e w' => ∃ A2 c2, e = .returned (.slice A2 (swapN n) c2) ∧ OwnII w' w.heap.size w'.heap.size (.slice A2 (swapN n) c2) (swapN n) (fun j => swapRow n.toNat j) ∧ Below w.heap.size w w' := by
  rcases inB_or n 2 10 with ⟨hI, i1, i2⟩ | hI
  · obtain ⟨m, rfl⟩ := Int.eq_ofNat_of_zero_le (show 0 ≤ n by omega)
    rw [Int.toNat_natCast, swapN_of (by omega) (by omega)]
    obtain ⟨M, hM⟩ : ∃ M, M = m - 1 := ⟨_, rfl⟩
    rw [← hM]
    have HM := Lib.hid hM
    clear hM
    have m1 : 2 ≤ m := by omega
    have m2 : m ≤ 10 := by omega
    go_enter Try.func16, Try.ntmps16
    go_wp2_with (go_at_call 50; refine (l01In_any _ _ _ _).mono ?_; rintro e w' ⟨rfl, rfl⟩)
    go_loopw [3, 4, 5, 6] (fun v r _ _ wr => ∃ j : Nat, j + 1 ≤ m ∧ r = .int .i64 ((j : Int) + 1) ∧ OwnII wr w.heap.size wr.heap.size v j (fun j => swapRow m j) ∧ Below w.heap.size w wr) (fun _ r _ _ _ => m - (intOf r).toNat)
    case atStart => exact ⟨0, by omega, rfl, (ownII_empty w _).more (by simp), (Below.refl _ _).alloc (Nat.le_refl _) _⟩
    case round =>
      obtain ⟨j, hj, rfl, hown, hb⟩ := hrel
      by_cases hlt : j + 1 < m
      · have d1 : decide ((j : Int) + 1 < (m : Int)) = true := decide_eq_true (by omega)
        go_wp2_with fail
        obtain ⟨wo, rfl⟩ : ∃ wo : World, wo = wr := ⟨_, rfl⟩
        go_loopw [5, 6] (fun u i wr => ∃ k : Nat, k ≤ m ∧ i = .int .i64 k ∧ ∃ A c, u = .slice A k c ∧ OwnI wr wo.heap.size (.slice A k c) ((swapRow m j).take k) ∧ Below wo.heap.size wo wr) (fun _ i _ => m - (intOf i).toNat)
        case atStart => exact ⟨0, by omega, rfl, _, _, rfl, own_empty wo, (Below.refl _ _).alloc (Nat.le_refl _) _⟩
        case round =>
          obtain ⟨k, hk, rfl, Au, cu, rfl, hrow, hb2⟩ := hrel
          by_cases hkl : k < m
          · have hsz := hb2.size
            have HT := Lib.hid (take_succ_nth (xs := swapRow m j) (k := k) (by rw [swapRow_len]; exact hkl))
            have HN := Lib.hid (nth_swapRow (n := m) (j := j) hkl)
            go_wp2_with (at_builtin; refine app_shape rfl _ _ rfl wo.heap.size _ ((swapRow m j).take k) (((k : Int) + ((j : Int) + 1)) % (m : Int)) wr.heap.size k (by rw [List.length_take, swapRow_len]; omega) rfl (hrow.alloc _) rfl (heap_alloc_new wr _) (by rw [List.length_take]; omega) (by simp; omega) ?_; intro A4 c4 w4 ho4 hb4)
            rw [← HN.out, ← HT.out] at ho4
            have hb5 := (hb2.alloc hb2.size _).trans hb4
            clear hb4 hrow hb2
            go_wp2
            go_roundw
            case rel => exact ⟨k + 1, by omega, by go_num, A4, c4, rfl, ho4, hb5⟩
            case measure => simp [intOf]; omega
          · obtain rfl : k = m := by omega
            have hsz := hb2.size
            have hrow2 := hrow
            rw [List.take_of_length_le (by rw [swapRow_len]; exact Nat.le_refl _)] at hrow2
            clear hrow
            have hown2 := hown.keep hb2
            have hbw := hb.size
            go_wp2_with (at_builtin; (refine appII_plain rfl _ _ rfl w.heap.size wo.heap.size j _ _ (fun j => swapRow k j) wr.heap.size rfl (ownII_alloc hown2 _) (hrow2.alloc _) hb.size rfl (heap_alloc_new wr _) (by omega) (by simp; omega) ?_); intro v4 w4 ho4 hb4)
            have hb5 := ((hb.trans (hb2.mono hb.size)).alloc (by omega) _).trans hb4
            clear hb4 hrow2 hb2 hown hown2
            go_wp2
            go_roundw
            case rel => exact ⟨j + 1, by omega, by go_num, ho4, hb5⟩
            case measure => simp [intOf]; omega
      · obtain rfl : j = M := by have := HM.out; omega
        obtain ⟨A2, c2, hv⟩ := hown.shape
        have HV := Lib.hid hv
        clear hv
        go_wp2
        go_ret
        rw [HV.out] at hown
        exact ⟨A2, c2, by rw [HV.out]; rfl, hown, hb⟩
  · rw [swapN_no hI]
    go_enter Try.func16, Try.ntmps16
    go_wp2_with (go_at_call 50; refine (l01In_any _ _ _ _).mono ?_; rintro e w' ⟨rfl, rfl⟩)
    go_ret
    exact ⟨_, 0, rfl, (ownII_empty w _).more (by simp), (Below.refl _ _).alloc (Nat.le_refl _) _⟩
theorem swap_wf (n : Int) : ∀ i, i < swapN n → ∀ x ∈ swapRow n.toNat i, (Lit.int .i64 x).wf = true := by
  intro i hi
  rcases inB_or n 2 10 with ⟨hI, i1, i2⟩ | hI
  · exact swapRow_wf (by omega) (by omega)
  · rw [swapN_no hI] at hi
    omega
theorem swap_total (n : Int) : swapN n + total (fun j => swapRow n.toNat j) (swapN n) ≤ 1048576 := by
  have h : ∀ m, total (fun j => swapRow n.toNat j) m = m * n.toNat := by
    intro m
    induction m with
    | zero => simp [total]
    | succ m ih => simp only [total]; rw [ih, swapRow_len, Nat.add_mul, Nat.one_mul]
  rw [h]
  rcases inB_or n 2 10 with ⟨hI, i1, i2⟩ | hI
  · have h1 := swapN_le n
    have h2 : swapN n * n.toNat ≤ 9 * 10 := Nat.mul_le_mul h1 (by omega)
    omega
  · rw [swapN_no hI]
    omega
end Go.Proofs.Ytkglgbdiakinlaa
