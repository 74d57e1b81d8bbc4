/- The bitwise 'or' of two small numbers, as the walk writes it. -/
import Derived.Test.YtmpadppnhhamhaaBase
import Derived.Laws.BitsAllLaws
import Derived.Laws.BitsLemmas
import Derived.Deep.DeepCutAuto
namespace Go.Proofs.Ytmpadppnhhamhaa
open Go.ChangeShapes Go.WideShapes Go.ChangeAt Go.RowKit
theorem bv_i64 (a : Nat) (ha : a < 9223372036854775808) : (BitVec.ofInt 64 (a : Int)).toNat = a := by
  rw [BitVec.ofInt_natCast, BitVec.toNat_ofNat]; exact Nat.mod_eq_of_lt (by omega)
theorem or_small (a b : Nat) (ha : a < 64) (hb : b < 64) : bits .or .i64 (a : Int) (b : Int) = ((a ||| b : Nat) : Int) := by
  have hx : a ||| b < 2 ^ 6 := Nat.or_lt_two_pow (by omega) (by omega)
  show IntKind.i64.wrap ((BitVec.ofInt 64 (a : Int) ||| BitVec.ofInt 64 (b : Int)).toNat : Int) = _
  rw [BitVec.toNat_or, bv_i64 a (by omega), bv_i64 b (by omega), IntKind.wrap_i64]
  omega
theorem pow_small (p : Nat) (hp : p < 6) : wrap64 ((2 : Int) ^ p) = ((2 ^ p : Nat) : Int) ∧ 2 ^ p < 64 := by
  rcases (by omega : p = 0 ∨ p = 1 ∨ p = 2 ∨ p = 3 ∨ p = 4 ∨ p = 5) with rfl | rfl | rfl | rfl | rfl | rfl <;> exact ⟨by decide +kernel, by decide⟩
theorem or_pow (S p : Nat) (hS : S < 64) (hp : p < 6) : bits .or .i64 (S : Int) (wrap64 ((2 : Int) ^ p)) = ((S ||| 2 ^ p : Nat) : Int) := by
  rw [(pow_small p hp).1, or_small S (2 ^ p) hS (pow_small p hp).2]
theorem full_small (m : Nat) (h1 : 1 ≤ m) (hm : m ≤ 5) : 2 ^ m - 1 ≤ 31 ∧ ((((2 ^ m - 1 : Nat) : Int)) == wrap64 (wrap64 ((2 : Int) ^ m) - 1)) = true := by
  rcases (by omega : m = 1 ∨ m = 2 ∨ m = 3 ∨ m = 4 ∨ m = 5) with rfl | rfl | rfl | rfl | rfl <;> exact ⟨by decide, by decide +kernel⟩
end Go.Proofs.Ytmpadppnhhamhaa
