/- Plain facts of dropping out of a swap of 2 to 8 members: settled by computation. -/
import Derived.Test.YtkglgbdiakinlaaPureY
import Derived.Test.YtkglgbdiakinlaaPureP
import Derived.Test.YtkglgbdiakinlaaPureM
import Derived.Test.YtkglgbdiakinlaaPureV
import Derived.Test.YtkglgbdiakinlaaPureZ
import Derived.Test.YtkglgbdiakinlaaPureR
import Derived.Test.YtkglgbdiakinlaaPureI
namespace Go.Proofs.Ytkglgbdiakinlaa
/-- the sum of (idle - 1) over the first r rounds -/
def othersTo (z : Nat → List Int) : Nat → Int
  | 0 => 0
  | r + 1 => othersTo z r + idleTo (z r) (z r).length - 1
/-- a row of the plan that is left: k keeps its own, all others differ and none has k's -/
def leftOk (N k : Nat) (r : List Int) : Bool :=
  decide (r.length = N) && (nth r k == (k : Int)) && allTo (fun i => decide (0 ≤ nth r i) && decide (nth r i < (N : Int)) && (i == k || !(nth r i == (k : Int))) && allTo (fun j => !(nth r j == nth r i)) i) N
theorem left_facts {N k : Nat} {r : List Int} (h : leftOk N k r = true) : r.length = N ∧ nth r k = (k : Int) ∧ ∀ i, i < N → 0 ≤ nth r i ∧ nth r i < (N : Int) ∧ (i ≠ k → nth r i ≠ (k : Int)) ∧ ∀ j, j < i → nth r j ≠ nth r i := by
  simp only [leftOk, Bool.and_eq_true, decide_eq_true_eq, beq_iff_eq, allTo_iff] at h
  refine ⟨h.1.1, h.1.2, fun i hi => ?_⟩
  obtain ⟨h1, h2⟩ := h.2 i hi
  refine ⟨h1.1.1, h1.1.2, fun hne e => ?_, fun j hj e => ?_⟩
  · have := h1.2
    simp [hne, e] at this
  · have := h2 j hj
    simp [e] at this
def dropGood (N k : Nat) (z : Nat → List Int) : Bool :=
  dropOk N z (N - 1) k && allTo (fun r => leftOk N k (dropZ z k r)) (N - 1) &&
  decide ((missL N (dropZ z k) (N - 1)).length = 2 * (N - 1)) && decide (repeated N (dropZ z k) (N - 1) + othersTo (dropZ z k) (N - 1) = (N : Int) - 1) &&
  allTo (fun r => decide (-100 ≤ othersTo (dropZ z k) r) && decide (othersTo (dropZ z k) r ≤ 100) && decide (-100 ≤ idleTo (dropZ z k r) (dropZ z k r).length) && decide (idleTo (dropZ z k r) (dropZ z k r).length ≤ 100)) N
def planGood (N : Nat) (z : Nat → List Int) : Bool :=
  decide (repeated N z (N - 1) = 0) && decide ((missL N z (N - 1)).length = 0) && allTo (fun h => decide ((owedL N z (N - 1) (h : Nat)).length = N * (N - 1 - h))) N && allTo (fun k => dropGood N k z) N
set_option maxRecDepth 100000 in
theorem dp_swap : ∀ q, q < 7 → planGood (q + 2) (fun j => swapRow (q + 2) j) = true := by decide +kernel
set_option maxRecDepth 100000 in
theorem dp_meet : ∀ q, q < 7 → q % 2 = 0 → planGood (q + 2) (fun j => meetRow (q + 2) j) = true := by decide +kernel
end Go.Proofs.Ytkglgbdiakinlaa
