/- Contracts of the laws' small functions on bytes and lists: big, at, has. -/
import Derived.Test.YthfhbcgnninlkaaInts
import Derived.Outline
namespace Go.Proofs.Ythfhbcgnninlkaa
open Go.ChangeShapes Go.WideShapes Go.ChangeAt Go.RowKit
theorem big_any (A : Option Addr) (n c : Nat) (w : World) (hn : n ≤ 9223372036854775807) :
    Calls Try.prog 47 #[.slice A n c] w fun e w' => e = .returned (.bool (decide (1048576 < (n : Int)))) ∧ w = w' := by
  go_enter Try.func47, Try.ntmps47
  go_wp2
  go_ret
  exact ⟨ret_bool (by simp), rfl⟩
set_option maxHeartbeats 2000000 in
theorem at_any (A : Option Addr) (n c : Nat) (zs : List Int) (i : Nat) (B : Nat) (w : World) (hr : RowI .u8 w B A n c zs) (hn : n ≤ 1048576) (hi : i ≤ 20) :
    Calls Try.prog 49 #[.slice A n c, .int .i64 i] w fun e w' => (∃ v : Nat, v ≤ 255 ∧ e = .returned (.int .i64 v)) ∧ w = w' := by
  rcases (by omega : n = 0 ∨ 0 < n) with rfl | hp
  · go_enter Try.func49, Try.ntmps49
    go_wp2
    go_ret
    exact ⟨⟨0, by omega, rfl⟩, rfl⟩
  · obtain ⟨j, hj⟩ : ∃ j, j = (5 * i + 1) % n := ⟨_, rfl⟩
    have hjn : j < n := by rw [hj]; exact Nat.mod_lt _ hp
    obtain ⟨b, off, rfl, hb, hc⟩ := hr.at_ hjn
    have hl := hr.len
    have hw := hr.2.2.2.1 (nth zs j) (nth_mem (by omega))
    have hu : 0 ≤ nth zs j ∧ nth zs j ≤ 255 := by
      have e1 : IntKind.u8.min = 0 := rfl
      have e2 : IntKind.u8.max = 255 := rfl
      simp [Lit.wf] at hw
      omega
    obtain ⟨v, hv⟩ : ∃ v : Nat, nth zs j = (v : Int) := ⟨(nth zs j).toNat, by omega⟩
    rw [hv] at hc
    have t0 : ((i : Int) * 5 + 1).tmod (n : Int) = (j : Int) := by
      rw [hj, Int.tmod_eq_emod_of_nonneg (by omega)]
      push_cast
      congr 1
      omega
    have n0 : ((n : Int) == 0) = false := beq_eq_false_iff_ne.2 (by omega)
    have n1 : ¬ (n : Int) = 0 := by omega
    have n2 : ¬ n = 0 := by omega
    have j0 : (0 : Int) ≤ (j : Int) := by omega
    have j1 : (j : Int) < (n : Int) := by omega
    have v0 : IntKind.i64.wrap (v : Int) = (v : Int) := IntWalk.i64_in _ (by omega)
    have v255 : v ≤ 255 := by omega
    clear hj hr hw hu hv hl
    go_enter Try.func49, Try.ntmps49
    go_wp2
    go_ret
    exact ⟨⟨v, v255, rfl⟩, rfl⟩
theorem hask_any (A : Option Addr) (n c : Nat) (zs : List Int) (x : Int) (B : Nat) (w : World) (hr : RowI .i64 w B A n c zs) (hn : n ≤ 1000000) :
    Calls Try.prog 52 #[.slice A n c, .int .i64 x] w fun e w' => e = .returned (.bool (zs.contains x)) ∧ w = w' := by
  have HL := Lib.hid hr.len
  have HE := Lib.hid (show zs.take zs.length = zs from List.take_length)
  go_enter Try.func52, Try.ntmps52
  go_wp2_with fail
  go_loopw [5] (fun v wr => ∃ k : Nat, k ≤ n ∧ v = .int .i64 k ∧ Hid ((zs.take k).contains x = false) ∧ wr = w) (fun v _ => n - (intOf v).toNat)
  case atStart => exact ⟨0, by omega, rfl, Lib.hid (by simp), rfl⟩
  case round =>
    obtain ⟨k, hk, rfl, hno, rfl⟩ := hrel
    by_cases hlt : k < n
    · obtain ⟨b, off, rfl, hb, hc⟩ := hr.at_ hlt
      have HK := Lib.hid (show k < zs.length by rw [HL.out]; exact hlt)
      have HT := Lib.hid (take_succ_nth HK.out)
      have k0 : (0 : Int) ≤ (k : Int) := by omega
      have k1 : (k : Int) < (n : Int) := by omega
      by_cases e : nth zs k = x
      · go_wp2
        go_ret
        refine ⟨ret_bool ?_, rfl⟩
        rw [eq_comm, List.contains_iff_mem, ← e]
        exact nth_mem HK.out
      · have e2 : (nth zs k == x) = false := beq_eq_false_iff_ne.2 e
        go_wp2
        go_roundw
        case rel => exact ⟨k + 1, by omega, by go_num, Lib.hid (by rw [HT.out]; simpa [e, Ne.symm e] using hno.out), by first | trivial | rfl⟩
        case measure => simp [intOf]; omega
    · obtain rfl : k = n := by omega
      go_wp2
      go_ret
      exact ⟨ret_bool (by rw [← hno.out, ← HL.out, HE.out]), rfl⟩
end Go.Proofs.Ythfhbcgnninlkaa
