/- Contracts of MeetingPlan: the program's and the reference's. -/
import Derived.Test.YtkglgbdiakinlaaRii2
import Derived.Test.YtkglgbdiakinlaaPureM
import Derived.Outline
namespace Go.Proofs.Ytkglgbdiakinlaa
open Go.ChangeShapes Go.WideShapes Go.ChangeAt Go.RowKit
set_option maxHeartbeats 4000000 in
theorem spec_meet (n : Int) (w : World) :
    Calls Try.prog 21 #[.int .i64 n] w fun e w' => ∃ A2 c2, e = .returned (.slice A2 (meetN n) c2) ∧ OwnII w' w.heap.size w'.heap.size (.slice A2 (meetN n) c2) (meetN n) (fun j => meetRow n.toNat j) ∧ Below w.heap.size w w' := by
  rcases inB_or n 2 10 with ⟨hI, i1, i2⟩ | hI
  rotate_left
  · rw [meetN_no hI]
    go_enter Try.func21, Try.ntmps21
    go_wp2_with (go_at_call 50; refine (l01In_any _ _ _ _).mono ?_; rintro e w' ⟨rfl, rfl⟩)
    go_ret
    exact ⟨_, 0, rfl, (ownII_empty w _).more (by simp), (Below.refl _ _).alloc (Nat.le_refl _) _⟩
  rcases (by omega : n % 2 = 1 ∨ n % 2 = 0) with hO | hO
  · rw [meetN_odd hO]
    have hT : Int.tmod n 2 = 1 := by rw [Int.tmod_eq_emod_of_nonneg (by omega)]; exact hO
    have o1 : (n % 2 == 1) = true := beq_iff_eq.2 hO
    have o2 : (Int.tmod n 2 == 1) = true := beq_iff_eq.2 hT
    clear hO hT
    go_enter Try.func21, Try.ntmps21
    go_wp2_with (go_at_call 50; refine (l01In_any _ _ _ _).mono ?_; rintro e w' ⟨rfl, rfl⟩)
    go_ret
    exact ⟨_, 0, rfl, (ownII_empty w _).more (by simp), (Below.refl _ _).alloc (Nat.le_refl _) _⟩
  · obtain ⟨m, rfl⟩ := Int.eq_ofNat_of_zero_le (show 0 ≤ n by omega)
    have hT : Int.tmod (m : Int) 2 = 0 := by rw [Int.tmod_eq_emod_of_nonneg (by omega)]; exact hO
    have o1 : ((m : Int) % 2 == 1) = false := by rw [hO]; rfl
    have o2 : (Int.tmod (m : Int) 2 == 1) = false := by rw [hT]; rfl
    rw [Int.toNat_natCast, meetN_of (by omega) (by omega) (by omega)]
    have hO2 : m % 2 = 0 := by omega
    have HO := Lib.hid hO2
    obtain ⟨M, hM⟩ : ∃ M, M = m - 1 := ⟨_, rfl⟩
    rw [← hM]
    have HM := Lib.hid hM
    clear hM hT hO hO2
    have m1 : 2 ≤ m := by omega
    have m2 : m ≤ 10 := by omega
    go_enter Try.func21, Try.ntmps21
    go_wp2_with (go_at_call 50; refine (l01In_any _ _ _ _).mono ?_; rintro e w' ⟨rfl, rfl⟩)
    go_loopw [3, 4, 5, 6, 7] (fun v r _ _ _ wr => ∃ j : Nat, j + 1 ≤ m ∧ r = .int .i64 (j : Int) ∧ OwnII wr w.heap.size wr.heap.size v j (fun j => meetRow m j) ∧ Below w.heap.size w wr) (fun _ r _ _ _ _ => m - (intOf r).toNat)
    case atStart => exact ⟨0, by omega, rfl, (ownII_empty w _).more (by simp), (Below.refl _ _).alloc (Nat.le_refl _) _⟩
    case round =>
      obtain ⟨j, hj, rfl, hown, hb⟩ := hrel
      by_cases hlt : j + 1 < m
      · have d1 : decide ((j : Int) < (m : Int) - 1) = true := decide_eq_true (by omega)
        go_wp2_with fail
        obtain ⟨wo, rfl⟩ : ∃ wo : World, wo = wr := ⟨_, rfl⟩
        go_loopw [5, 6, 7] (fun u i _ wr => ∃ k : Nat, k ≤ m ∧ i = .int .i64 k ∧ ∃ A c, u = .slice A k c ∧ OwnI wr wo.heap.size (.slice A k c) ((meetRow m j).take k) ∧ Below wo.heap.size wo wr) (fun _ i _ _ => m - (intOf i).toNat)
        case atStart => exact ⟨0, by omega, rfl, _, _, rfl, own_empty wo, (Below.refl _ _).alloc (Nat.le_refl _) _⟩
        case round =>
          obtain ⟨k, hk, rfl, Au, cu, rfl, hrow, hb2⟩ := hrel
          by_cases hkl : k < m
          · have hsz := hb2.size
            have HT := Lib.hid (take_succ_nth (xs := meetRow m j) (k := k) (by rw [meetRow_len]; exact hkl))
            have HN := Lib.hid (nth_meetRow (m := m) (j := j) hkl)
            have d2 : decide ((k : Int) < (m : Int)) = true := decide_eq_true (by omega)
            have hmm : ((m : Int) - 1 == 0) = false := beq_eq_false_iff_ne.2 (by omega)
            rcases (by omega : k + 1 = m ∨ (k + 1 < m ∧ k = j) ∨ (k + 1 < m ∧ k ≠ j)) with q | ⟨q, q'⟩ | ⟨q, q'⟩
            · have HQ := Lib.hid (meet_last (j := j) q)
              have e1 : ((k : Int) == (m : Int) - 1) = true := beq_iff_eq.2 (by omega)
              clear q
              go_wp2_with (at_builtin; refine app_shape rfl _ _ rfl wo.heap.size _ ((meetRow m j).take k) ((j : Int)) wr.heap.size k (by rw [List.length_take, meetRow_len]; omega) rfl (hrow.alloc _) rfl (heap_alloc_new wr _) (by rw [List.length_take]; omega) (by simp; omega) ?_; intro A4 c4 w4 ho4 hb4)
              rw [← HQ.out, ← HN.out, ← HT.out] at ho4
              have hb5 := (hb2.alloc hb2.size _).trans hb4
              clear hb4 hrow hb2
              go_wp2
              go_roundw
              case rel => exact ⟨k + 1, by omega, by go_num, A4, c4, rfl, ho4, hb5⟩
              case measure => simp [intOf]; omega
            · have HQ := Lib.hid (meet_self q q')
              have e1 : ((k : Int) == (m : Int) - 1) = false := beq_eq_false_iff_ne.2 (by omega)
              have e2 : ((k : Int) == (j : Int)) = true := beq_iff_eq.2 (by omega)
              clear q'
              go_wp2_with (at_builtin; refine app_shape rfl _ _ rfl wo.heap.size _ ((meetRow m j).take k) ((m : Int) - 1) wr.heap.size k (by rw [List.length_take, meetRow_len]; omega) rfl (hrow.alloc _) rfl (heap_alloc_new wr _) (by rw [List.length_take]; omega) (by simp; omega) ?_; intro A4 c4 w4 ho4 hb4)
              rw [← HQ.out, ← HN.out, ← HT.out] at ho4
              have hb5 := (hb2.alloc hb2.size _).trans hb4
              clear hb4 hrow hb2
              go_wp2
              go_roundw
              case rel => exact ⟨k + 1, by omega, by go_num, A4, c4, rfl, ho4, hb5⟩
              case measure => simp [intOf]; omega
            · have HQ := Lib.hid (meet_other q q')
              have e1 : ((k : Int) == (m : Int) - 1) = false := beq_eq_false_iff_ne.2 (by omega)
              have e2 : ((k : Int) == (j : Int)) = false := beq_eq_false_iff_ne.2 (by omega)
              clear q'
              go_wp2_with (at_builtin; refine app_shape rfl _ _ rfl wo.heap.size _ ((meetRow m j).take k) ((2 * (j : Int) - k) % ((m : Int) - 1)) wr.heap.size k (by rw [List.length_take, meetRow_len]; omega) rfl (hrow.alloc _) rfl (heap_alloc_new wr _) (by rw [List.length_take]; omega) (by simp; omega) ?_; intro A4 c4 w4 ho4 hb4)
              rw [← HQ.out, ← HN.out, ← HT.out] at ho4
              have hb5 := (hb2.alloc hb2.size _).trans hb4
              clear hb4 hrow hb2
              go_wp2
              go_roundw
              case rel => exact ⟨k + 1, by omega, by go_num, A4, c4, rfl, ho4, hb5⟩
              case measure => simp [intOf]; omega
          · obtain rfl : k = m := by omega
            have hsz := hb2.size
            have hrow2 := hrow
            rw [List.take_of_length_le (by rw [meetRow_len]; exact Nat.le_refl _)] at hrow2
            clear hrow
            have hown2 := hown.keep hb2
            have hbw := hb.size
            go_wp2_with (at_builtin; (refine appII_plain rfl _ _ rfl w.heap.size wo.heap.size j _ _ (fun j => meetRow k j) wr.heap.size rfl (ownII_alloc hown2 _) (hrow2.alloc _) hb.size rfl (heap_alloc_new wr _) (by omega) (by simp; omega) ?_); intro v4 w4 ho4 hb4)
            have hb5 := ((hb.trans (hb2.mono hb.size)).alloc (by omega) _).trans hb4
            clear hb4 hrow2 hb2 hown hown2
            go_wp2
            go_roundw
            case rel => exact ⟨j + 1, by omega, by go_num, ho4, hb5⟩
            case measure => simp [intOf]; omega
      · obtain rfl : j = M := by have := HM.out; omega
        obtain ⟨A2, c2, hv⟩ := hown.shape
        have HV := Lib.hid hv
        clear hv
        have d1 : decide ((j : Int) < (m : Int) - 1) = false := decide_eq_false (by have := HM.out; omega)
        go_wp2
        go_ret
        rw [HV.out] at hown
        exact ⟨A2, c2, by rw [HV.out]; rfl, hown, hb⟩
theorem meet_total (n : Int) : meetN n + total (fun j => meetRow n.toNat j) (meetN n) ≤ 1048576 := by
  have h : ∀ m, total (fun j => meetRow n.toNat j) m = m * n.toNat := by
    intro m
    induction m with
    | zero => simp [total]
    | succ m ih => simp only [total]; rw [ih, meetRow_len, Nat.add_mul, Nat.one_mul]
  rw [h]
  rcases inB_or n 2 10 with ⟨hI, i1, i2⟩ | hI
  · have h1 := meetN_le n
    have h2 : meetN n * n.toNat ≤ 9 * 10 := Nat.mul_le_mul h1 (by omega)
    omega
  · rw [meetN_no hI]
    omega
end Go.Proofs.Ytkglgbdiakinlaa
