/- Contracts of the functions on stocks and on values of colors: the program's and the reference's. -/
import Derived.Test.YthenjmjnooaokaaInts
import Derived.Test.YthenjmjnooaokaaPureS
namespace Go.Proofs.Ythenjmjnooaokaa
open Go.ChangeShapes Go.WideShapes Go.ChangeAt Go.RowKit
theorem impl_contrastOk (A : Option Addr) (n c : Nat) (zs : List Int) (B : Nat) (w : World) (h : RowI .i64 w B A n c zs) :
    Calls Try.prog 38 #[.slice A n c] w fun e w' => e = .returned (.bool (okList zs n 0 100)) ∧ w = w' := by
  rcases Bool.eq_false_or_eq_true ((n : Int) == 6) with h6 | h6
  all_goals
    go_enter Try.func38, Try.ntmps38
    go_wp2_with (go_at_call 81; refine (all_any A n c zs _ _ B _ h).mono ?_; rintro e w' ⟨rfl, rfl⟩)
    go_ret
    exact ⟨ret_bool (by simp [okList, h6]), rfl⟩
theorem spec_contrastOk (A : Option Addr) (n c : Nat) (zs : List Int) (B : Nat) (w : World) (h : RowI .i64 w B A n c zs) :
    Calls Try.prog 64 #[.slice A n c] w fun e w' => e = .returned (.bool (okList zs n 0 100)) ∧ w = w' := by
  have hcap := h.cap
  unfold maxLen at hcap
  go_enter Try.func64, Try.ntmps64
  go_wp2_with fail
  go_loop [3] (fun i => ∃ k : Nat, k ≤ n ∧ i = .int .i64 k ∧ allIn (zs.take k) 0 100 = true) (fun i => n - (intOf i).toNat)
  case atStart => exact ⟨0, Nat.zero_le _, rfl, rfl⟩
  case round =>
    obtain ⟨k, hk, rfl, hall⟩ := hrel
    have HA := Lib.hid hall
    clear hall
    by_cases hlt : k < n
    · obtain ⟨b', off, rfl, _, hc⟩ := h.at_ hlt
      rcases inB_or (nth zs k) 0 100 with ⟨hA, a1, a2⟩ | hA
      · go_wp2_with (go_at_call 50; refine (l01In_any _ _ _ _).mono ?_; rintro e w' ⟨rfl, rfl⟩)
        go_round
        case rel => exact ⟨k + 1, by omega, by go_num, allIn_snoc (by rw [h.len]; exact hlt) HA.out hA⟩
        case measure => simp [intOf]; omega
      · go_wp2_with (go_at_call 50; refine (l01In_any _ _ _ _).mono ?_; rintro e w' ⟨rfl, rfl⟩)
        go_ret
        exact ⟨ret_bool (okList_b (allIn_no (by rw [h.len]; exact hlt) hA)).symm, rfl⟩
    · have hall : allIn zs 0 100 = true := by rw [← HA.out, List.take_of_length_le (by rw [h.len]; omega)]
      have H2 := Lib.hid (okList_a (n := n) hall)
      clear hall
      go_wp2
      go_ret
      exact ⟨ret_bool (by rw [H2.out]), rfl⟩
end Go.Proofs.Ythenjmjnooaokaa
