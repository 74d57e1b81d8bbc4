/- Plain functions on blocks of cells. No program in sight. -/
import Derived.Test.YthenjmjnooaokaaPureC
import Derived.Test.YthenjmjnooaokaaPureY
namespace Go.Proofs.Ythenjmjnooaokaa
def cellsOk (f : Nat → Nat → Int) (n : Nat) : Bool := allTo (fun k => cellOk (f k)) n
def blockOk (s : Int) (n : Nat) (f : Nat → Nat → Int) : Bool := inB s 1 4 && ((n : Int) == s * s) && cellsOk f n
theorem sq4 {s : Int} (h : 1 ≤ s) (h2 : s ≤ 4) : 1 ≤ s * s ∧ s * s ≤ 16 := by
  have h3 : s = 1 ∨ s = 2 ∨ s = 3 ∨ s = 4 := by omega
  rcases h3 with rfl | rfl | rfl | rfl <;> decide
structure Block (s : Int) (n : Nat) (f : Nat → Nat → Int) : Prop where
  s1 : 1 ≤ s
  s4 : s ≤ 4
  sq : (n : Int) = s * s
  n16 : 1 ≤ n ∧ n ≤ 16
  ok : ∀ k, k < n → cellOk (f k) = true
theorem block_of {s : Int} {n : Nat} {f : Nat → Nat → Int} (h : blockOk s n f = true) : Block s n f := by
  unfold blockOk at h
  have h1 := Bool.and_eq_true_iff.1 h
  have h2 := Bool.and_eq_true_iff.1 h1.1
  have hb := inB_t h2.1
  have hq := beq_iff_eq.1 h2.2
  have := sq4 hb.1 hb.2
  exact ⟨hb.1, hb.2, hq, by omega, fun k hk => allTo_iff.1 h1.2 k hk⟩
theorem block_no {s : Int} {n k : Nat} {f : Nat → Nat → Int} (h : k < n) (e : cellOk (f k) = false) : blockOk s n f = false := by
  unfold blockOk cellsOk
  rw [allTo_no (p := fun k => cellOk (f k)) h e, Bool.and_false]
end Go.Proofs.Ythenjmjnooaokaa
