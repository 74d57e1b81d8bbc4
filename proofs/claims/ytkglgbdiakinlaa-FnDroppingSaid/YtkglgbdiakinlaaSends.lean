/- Contracts of sends. -/
import Derived.Test.YtkglgbdiakinlaaPlans
import Derived.Test.YtkglgbdiakinlaaPureN
namespace Go.Proofs.Ytkglgbdiakinlaa
open Go.ChangeShapes Go.WideShapes Go.ChangeAt Go.RowKit
set_option maxHeartbeats 4000000 in
theorem impl_sends (A : Option Addr) (l c : Nat) (z : Nat → List Int) (i : Nat) (x : Int) (B : Nat) (w : World) (h : RowII w B A l c z) (hi : ∀ j, j < l → i < (z j).length) :
    Calls Try.prog 57 #[.slice A l c, .int .i64 i, .int .i64 x] w fun e w' => e = .returned (.bool (sent z i x l)) ∧ w = w' := by
  have hcap := h.cap
  unfold maxLen at hcap
  go_enter Try.func57, Try.ntmps57
  go_wp2_with fail
  go_loop [8, 11] (fun _ r => ∃ j : Nat, j ≤ l ∧ r = .int .i64 j ∧ Hid (sent z i x j = false)) (fun _ r => l - (intOf r).toNat)
  case atStart => exact ⟨0, by omega, rfl, Lib.hid rfl⟩
  case round =>
    obtain ⟨j, hj, rfl, hp⟩ := hrel
    by_cases hlt : j < l
    · obtain ⟨b, off, rfl, hbB, Aj, cj, hcj, hrj⟩ := h.at_ hlt
      have hij := hi j hlt
      have hcj2 := hrj.cap
      unfold maxLen at hcj2
      obtain ⟨bj, oj, rfl, hbj, hx⟩ := hrj.at_ hij
      have j0 : (0 : Int) ≤ (j : Int) := by omega
      have j3 : (j : Int) < (l : Int) := by omega
      have i0 : (0 : Int) ≤ (i : Int) := by omega
      have i3 : (i : Int) < ((z j).length : Int) := by omega
      rcases Bool.eq_false_or_eq_true (nth (z j) i == x) with a | a
      · have HE := Lib.hid (sent_up hlt a)
        go_wp2
        go_ret
        exact ⟨ret_bool HE.out.symm, rfl⟩
      · have HP := Lib.hid (show sent z i x (j + 1) = false by show (sent z i x j || (nth (z j) i == x)) = false; rw [hp.out, a]; rfl)
        go_wp2
        go_round
        case rel => exact ⟨j + 1, by omega, by go_num, HP⟩
        case measure => simp [intOf]; omega
    · obtain rfl : j = l := by omega
      go_wp2
      go_ret
      exact ⟨ret_bool hp.out.symm, rfl⟩
set_option maxHeartbeats 4000000 in
theorem spec_sent (A : Option Addr) (l c : Nat) (z : Nat → List Int) (i : Nat) (x : Int) (f d : Nat) (B : Nat) (w : World) (h : RowII w B A l c z) (hd : f + d ≤ l) (hi : ∀ j, j < l → i < (z j).length) :
    Calls Try.prog 55 #[.slice A l c, .int .i64 i, .int .i64 x, .int .i64 f, .int .i64 ((f : Int) + d)] w fun e w' => e = .returned (.int .i64 (sentN z i x f d)) ∧ w = w' := by
  have hcap := h.cap
  unfold maxLen at hcap
  go_enter Try.func55, Try.ntmps55
  go_wp2_with fail
  go_loop [11, 12] (fun v r => ∃ j : Nat, j ≤ d ∧ r = .int .i64 ((f : Int) + j) ∧ v = .int .i64 (sentN z i x f j)) (fun _ r => f + d - (intOf r).toNat)
  case atStart => exact ⟨0, by omega, by simp, rfl⟩
  case round =>
    obtain ⟨j, hj, rfl, rfl⟩ := hrel
    have hbd := sentN_bd z i x f j
    by_cases hlt : j < d
    · obtain ⟨b, off, rfl, hbB, Aj, cj, hcj, hrj⟩ := h.at_ (show f + j < l by omega)
      have hij := hi (f + j) (by omega)
      have hcj2 := hrj.cap
      unfold maxLen at hcj2
      obtain ⟨bj, oj, rfl, hbj, hx⟩ := hrj.at_ hij
      have j0 : (0 : Int) ≤ (f : Int) + (j : Int) := by omega
      have j3 : (f : Int) + (j : Int) < (l : Int) := by omega
      have j4 : decide ((f : Int) + (j : Int) < (f : Int) + (d : Int)) = true := decide_eq_true (by omega)
      have i0 : (0 : Int) ≤ (i : Int) := by omega
      have i3 : (i : Int) < ((z (f + j)).length : Int) := by omega
      have HS := Lib.hid (show sentN z i x f (j + 1) = sentN z i x f j + (if (nth (z (f + j)) i == x) = true then 1 else 0) from rfl)
      rcases Bool.eq_false_or_eq_true (nth (z (f + j)) i == x) with a | a
      · rw [if_pos a] at HS
        go_wp2
        go_round
        case rel => exact ⟨j + 1, by omega, by go_num, by rw [HS.out]⟩
        case measure => simp [intOf]; omega
      · rw [if_neg (by rw [a]; simp), Int.add_zero] at HS
        go_wp2
        go_round
        case rel => exact ⟨j + 1, by omega, by go_num, by rw [HS.out]⟩
        case measure => simp [intOf]; omega
    · obtain rfl : j = d := by omega
      go_wp2
      go_ret
      exact ⟨rfl, rfl⟩
end Go.Proofs.Ytkglgbdiakinlaa
