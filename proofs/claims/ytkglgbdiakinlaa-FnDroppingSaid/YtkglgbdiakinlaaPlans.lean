/- Contracts of the test of plans. -/
import Derived.Test.YtkglgbdiakinlaaRii2
import Derived.Test.YtkglgbdiakinlaaPureK
import Derived.Outline
namespace Go.Proofs.Ytkglgbdiakinlaa
open Go.ChangeShapes Go.WideShapes Go.ChangeAt Go.RowKit
set_option maxHeartbeats 4000000 in
theorem impl_plans (n : Int) (A : Option Addr) (l c : Nat) (z : Nat → List Int) (B : Nat) (w : World) (h : RowII w B A l c z) :
    Calls Try.prog 56 #[.int .i64 n, .slice A l c] w fun e w' => e = .returned (.bool (plansOk n z l)) ∧ w = w' := by
  have hcap := h.cap
  unfold maxLen at hcap
  rcases inB_or n 2 10 with ⟨hI, i1, i2⟩ | hI
  · rcases (by omega : 9 < l ∨ l ≤ 9) with q | q
    · have HE := Lib.hid (plansOk_l (n := n) (z := z) q)
      have q2 : (9 : Int) < (l : Int) := by omega
      go_enter Try.func56, Try.ntmps56
      go_wp2_with (go_at_call 51; refine (within_any _ _ _ _).mono ?_; rintro e w' ⟨rfl, rfl⟩)
      go_ret
      exact ⟨ret_bool HE.out.symm, rfl⟩
    · have q2 : (l : Int) ≤ 9 := by omega
      go_enter Try.func56, Try.ntmps56
      go_wp2_with (go_at_call 51; refine (within_any _ _ _ _).mono ?_; rintro e w' ⟨rfl, rfl⟩)
      have HI := Lib.hid hI
      clear hI
      go_loop [6, 17] (fun _ i => ∃ j : Nat, j ≤ l ∧ i = .int .i64 j ∧ Hid (plansTo n z j = true)) (fun _ i => l - (intOf i).toNat)
      case atStart => exact ⟨0, by omega, rfl, Lib.hid rfl⟩
      case round =>
        obtain ⟨j, hj, rfl, hp⟩ := hrel
        by_cases hlt : j < l
        · obtain ⟨b, off, rfl, hbB, Aj, cj, hcj, hrj⟩ := h.at_ hlt
          have HZ := Lib.hid (plansTo_no (n := n) (z := z) (j := j) (l := l) hlt)
          have j0 : (0 : Int) ≤ (j : Int) := by omega
          have j3 : (j : Int) < (l : Int) := by omega
          rcases Classical.em (((z j).length : Int) = n) with e | e
          · have e1 : (((z j).length : Int) == n) = true := beq_iff_eq.2 e
            have e2 : (((z j).length : Int) != n) = false := by simp [bne, e1]
            have e3 : decide (((z j).length : Int) = n) = true := decide_eq_true e
            have e4 : (¬ (((z j).length : Int) = n)) = False := by simp [e]
            rcases Bool.eq_false_or_eq_true (allIn (z j) 0 (n - 1)) with a | a
            · have HP := Lib.hid (show plansTo n z (j + 1) = true by show (plansTo n z j && rowOk n (z j)) = true; rw [hp.out, rowOk, e1, a]; rfl)
              clear e HZ
              go_wp2_with (go_at_call 68; refine (all_any _ _ _ _ _ _ _ _ hrj).mono ?_; rintro e w' ⟨rfl, rfl⟩)
              go_round
              case rel => exact ⟨j + 1, by omega, by go_num, HP⟩
              case measure => simp [intOf]; omega
            · have HE := Lib.hid (HZ.out (by rw [rowOk, a, Bool.and_false]))
              clear e HZ
              go_wp2_with (go_at_call 68; refine (all_any _ _ _ _ _ _ _ _ hrj).mono ?_; rintro e w' ⟨rfl, rfl⟩)
              go_ret
              exact ⟨ret_bool HE.out.symm, rfl⟩
          · have e1 : (((z j).length : Int) == n) = false := beq_eq_false_iff_ne.2 e
            have HE := Lib.hid (HZ.out (by rw [rowOk, e1, Bool.false_and]))
            clear HZ
            have e2 : (((z j).length : Int) != n) = true := by simp [bne, e1]
            go_wp2_with (go_at_call 68; refine (all_any _ _ _ _ _ _ _ _ hrj).mono ?_; rintro e w' ⟨rfl, rfl⟩)
            go_ret
            exact ⟨ret_bool HE.out.symm, rfl⟩
        · obtain rfl : j = l := by omega
          have HE := Lib.hid (plansOk_yes HI.out q hp.out)
          go_wp2
          go_ret
          exact ⟨ret_bool HE.out.symm, rfl⟩
  · have HE := Lib.hid (plansOk_n (z := z) (l := l) hI)
    go_enter Try.func56, Try.ntmps56
    go_wp2_with (go_at_call 51; refine (within_any _ _ _ _).mono ?_; rintro e w' ⟨rfl, rfl⟩)
    go_ret
    exact ⟨ret_bool HE.out.symm, rfl⟩
set_option maxHeartbeats 4000000 in
theorem spec_plans (n : Int) (A : Option Addr) (l c : Nat) (z : Nat → List Int) (B : Nat) (w : World) (h : RowII w B A l c z) :
    Calls Try.prog 54 #[.int .i64 n, .slice A l c] w fun e w' => e = .returned (.bool (plansOk n z l)) ∧ w = w' := by
  have hcap := h.cap
  unfold maxLen at hcap
  rcases inB_or n 2 10 with ⟨hI, i1, i2⟩ | hI
  · rcases (by omega : 9 < l ∨ l ≤ 9) with q | q
    · have HE := Lib.hid (plansOk_l (n := n) (z := z) q)
      have q2 : (9 : Int) < (l : Int) := by omega
      go_enter Try.func54, Try.ntmps54
      go_wp2_with (go_at_call 50; refine (l01In_any _ _ _ _).mono ?_; rintro e w' ⟨rfl, rfl⟩)
      go_ret
      exact ⟨ret_bool HE.out.symm, rfl⟩
    · have q2 : (l : Int) ≤ 9 := by omega
      go_enter Try.func54, Try.ntmps54
      go_wp2_with (go_at_call 50; refine (l01In_any _ _ _ _).mono ?_; rintro e w' ⟨rfl, rfl⟩)
      have HI := Lib.hid hI
      clear hI
      go_loop [5, 6] (fun i _ => ∃ j : Nat, j ≤ l ∧ i = .int .i64 j ∧ Hid (plansTo n z j = true)) (fun i _ => l - (intOf i).toNat)
      case atStart => exact ⟨0, by omega, rfl, Lib.hid rfl⟩
      case round =>
        obtain ⟨j, hj, rfl, hp⟩ := hrel
        by_cases hlt : j < l
        · obtain ⟨b, off, rfl, hbB, Aj, cj, hcj, hrj⟩ := h.at_ hlt
          have HZ := Lib.hid (plansTo_no (n := n) (z := z) (j := j) (l := l) hlt)
          have hcj2 := hrj.cap
          unfold maxLen at hcj2
          have j0 : (0 : Int) ≤ (j : Int) := by omega
          have j3 : (j : Int) < (l : Int) := by omega
          go_wp2_with fail
          go_loop [6] (fun i => ∃ k : Nat, k ≤ (z j).length ∧ i = .int .i64 k ∧ Hid (allIn ((z j).take k) 0 (n - 1) = true)) (fun i => (z j).length - (intOf i).toNat)
          case atStart => exact ⟨0, by omega, rfl, Lib.hid (by simp [allIn])⟩
          case round =>
            obtain ⟨k, hk, rfl, ha⟩ := hrel
            by_cases hkl : k < (z j).length
            · obtain ⟨bj, oj, rfl, hbj, hx⟩ := hrj.at_ hkl
              have k0 : (0 : Int) ≤ (k : Int) := by omega
              have k3 : (k : Int) < ((z j).length : Int) := by omega
              rcases Bool.eq_false_or_eq_true (inB (nth (z j) k) 0 (n - 1)) with a | a
              · have HP := Lib.hid (allIn_snoc hkl ha.out a)
                clear HZ
                go_wp2_with (go_at_call 50; refine (l01In_any _ _ _ _).mono ?_; rintro e w' ⟨rfl, rfl⟩)
                go_round
                case rel => exact ⟨k + 1, by omega, by go_num, HP⟩
                case measure => simp [intOf]; omega
              · have HE := Lib.hid (HZ.out (by rw [rowOk, allIn_no hkl a, Bool.and_false]))
                clear HZ
                go_wp2_with (go_at_call 50; refine (l01In_any _ _ _ _).mono ?_; rintro e w' ⟨rfl, rfl⟩)
                go_ret
                exact ⟨ret_bool HE.out.symm, rfl⟩
            · have hke : k = (z j).length := by omega
              have hal : allIn (z j) 0 (n - 1) = true := by have := ha.out; rw [hke, List.take_length] at this; exact this
              have HA := Lib.hid hal
              have d1 : ¬ (k : Int) < ((z j).length : Int) := by omega
              clear ha hal hke
              rcases Classical.em (((z j).length : Int) = n) with e | e
              · have e1 : (((z j).length : Int) == n) = true := beq_iff_eq.2 e
                have e2 : (((z j).length : Int) != n) = false := by simp [bne, e1]
                have e3 : decide (((z j).length : Int) = n) = true := decide_eq_true e
                have e4 : (¬ (((z j).length : Int) = n)) = False := by simp [e]
                have HP := Lib.hid (show plansTo n z (j + 1) = true by show (plansTo n z j && rowOk n (z j)) = true; rw [hp.out, rowOk, e1, HA.out]; rfl)
                clear e HZ
                go_wp2
                go_round
                case rel => exact ⟨j + 1, by omega, by go_num, HP⟩
                case measure => simp [intOf]; omega
              · have e1 : (((z j).length : Int) == n) = false := beq_eq_false_iff_ne.2 e
                have HE := Lib.hid (HZ.out (by rw [rowOk, e1, Bool.false_and]))
                have e2 : (((z j).length : Int) != n) = true := by simp [bne, e1]
                clear HZ
                go_wp2
                go_ret
                exact ⟨ret_bool HE.out.symm, rfl⟩
        · obtain rfl : j = l := by omega
          have HE := Lib.hid (plansOk_yes HI.out q hp.out)
          go_wp2
          go_ret
          exact ⟨ret_bool HE.out.symm, rfl⟩
  · have HE := Lib.hid (plansOk_n (z := z) (l := l) hI)
    go_enter Try.func54, Try.ntmps54
    go_wp2_with (go_at_call 50; refine (l01In_any _ _ _ _).mono ?_; rintro e w' ⟨rfl, rfl⟩)
    go_ret
    exact ⟨ret_bool HE.out.symm, rfl⟩
end Go.Proofs.Ytkglgbdiakinlaa
