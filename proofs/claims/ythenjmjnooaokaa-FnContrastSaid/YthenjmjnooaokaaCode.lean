/- Contracts of the laws' small functions on bytes and lists: big, at, has. -/
import Derived.Test.YthenjmjnooaokaaInts
import Derived.Outline
namespace Go.Proofs.Ythenjmjnooaokaa
open Go.ChangeShapes Go.WideShapes Go.ChangeAt Go.RowKit
theorem big_any (A : Option Addr) (n c : Nat) (w : World) (hn : n ≤ 9223372036854775807) :
    Calls Try.prog 29 #[.slice A n c] w fun e w' => e = .returned (.bool (decide (1048576 < (n : Int)))) ∧ w = w' := by
  go_enter Try.func29, Try.ntmps29
  go_wp2
  go_ret
  exact ⟨ret_bool (by simp), rfl⟩
set_option maxHeartbeats 2000000 in
theorem at_any (A : Option Addr) (n c : Nat) (zs : List Int) (i : Nat) (B : Nat) (w : World) (hr : RowI .u8 w B A n c zs) (hn : n ≤ 1048576) (hi : i ≤ 20) :
    Calls Try.prog 32 #[.slice A n c, .int .i64 i] w fun e w' => (∃ v : Nat, v ≤ 255 ∧ e = .returned (.int .i64 v)) ∧ w = w' := by
  rcases (by omega : n = 0 ∨ 0 < n) with rfl | hp
  · go_enter Try.func32, Try.ntmps32
    go_wp2
    go_ret
    exact ⟨⟨0, by omega, rfl⟩, rfl⟩
  · obtain ⟨j, hj⟩ : ∃ j, j = (5 * i + 1) % n := ⟨_, rfl⟩
    have hjn : j < n := by rw [hj]; exact Nat.mod_lt _ hp
    obtain ⟨b, off, rfl, hb, hc⟩ := hr.at_ hjn
    have hl := hr.len
    have hw := hr.2.2.2.1 (nth zs j) (nth_mem (by omega))
    have hu : 0 ≤ nth zs j ∧ nth zs j ≤ 255 := by
      have e1 : IntKind.u8.min = 0 := rfl
      have e2 : IntKind.u8.max = 255 := rfl
      simp [Lit.wf] at hw
      omega
    obtain ⟨v, hv⟩ : ∃ v : Nat, nth zs j = (v : Int) := ⟨(nth zs j).toNat, by omega⟩
    rw [hv] at hc
    have t0 : ((i : Int) * 5 + 1).tmod (n : Int) = (j : Int) := by
      rw [hj, Int.tmod_eq_emod_of_nonneg (by omega)]
      push_cast
      congr 1
      omega
    have n0 : ((n : Int) == 0) = false := beq_eq_false_iff_ne.2 (by omega)
    have n1 : ¬ (n : Int) = 0 := by omega
    have n2 : ¬ n = 0 := by omega
    have j0 : (0 : Int) ≤ (j : Int) := by omega
    have j1 : (j : Int) < (n : Int) := by omega
    have v0 : IntKind.i64.wrap (v : Int) = (v : Int) := IntWalk.i64_in _ (by omega)
    have v255 : v ≤ 255 := by omega
    clear hj hr hw hu hv hl
    go_enter Try.func32, Try.ntmps32
    go_wp2
    go_ret
    exact ⟨⟨v, v255, rfl⟩, rfl⟩
end Go.Proofs.Ythenjmjnooaokaa
