/- Plain functions on cells of a block: what is a cell, the color at a side, likeness. A cell: f 0 how it is parted, f 1 and f 2 its colors. No program in sight. -/
import Derived.Test.YthenjmjnooaokaaPureB
namespace Go.Proofs.Ythenjmjnooaokaa
def cellOk (f : Nat → Int) : Bool := inB (f 0) 0 2 && inB (f 1) 0 5 && inB (f 2) 0 5 && ((f 0 == 0) == (f 1 == f 2))
/-- is color a of the cell at this side? -/
def isA (s side : Int) : Bool := side == 0 || (s == 1 && side == 1) || (s == 2 && side == 3)
def colorAt (f : Nat → Int) (side : Int) : Int := if cellOk f && inB side 0 3 then (if isA (f 0) side then f 1 else f 2) else -1
theorem cellOk_t {f : Nat → Int} (h : cellOk f = true) : (0 ≤ f 0 ∧ f 0 ≤ 2) ∧ (0 ≤ f 1 ∧ f 1 ≤ 5) ∧ (0 ≤ f 2 ∧ f 2 ≤ 5) ∧ ((f 0 == 0) = (f 1 == f 2)) := by
  simp only [cellOk, Bool.and_eq_true, beq_iff_eq] at h
  exact ⟨inB_t h.1.1.1, inB_t h.1.1.2, inB_t h.1.2, h.2⟩
theorem colorAt_bd {f : Nat → Int} (h : cellOk f = true) {side : Int} (hs : inB side 0 3 = true) : 0 ≤ colorAt f side ∧ colorAt f side ≤ 5 := by
  obtain ⟨_, h1, h2, _⟩ := cellOk_t h
  unfold colorAt
  simp only [h, hs, Bool.and_self, if_true]
  split <;> assumption
theorem colorAt_a {f : Nat → Int} {s : Int} (h : cellOk f = true) (hs : inB s 0 3 = true) (hc : s = 0 ∨ (f 0 = 1 ∧ s = 1) ∨ (f 0 = 2 ∧ s = 3)) : f 1 = colorAt f s := by
  have : isA (f 0) s = true := by
    unfold isA
    rcases hc with hc | ⟨h1, h2⟩ | ⟨h1, h2⟩
    · simp [hc]
    · simp [h1, h2]
    · simp [h1, h2]
  simp [colorAt, h, hs, this]
theorem colorAt_b {f : Nat → Int} {s : Int} (h : cellOk f = true) (hs : inB s 0 3 = true) (hc : ¬ (s = 0 ∨ (f 0 = 1 ∧ s = 1) ∨ (f 0 = 2 ∧ s = 3))) : f 2 = colorAt f s := by
  have : isA (f 0) s = false := by
    unfold isA
    simp
    omega
  simp [colorAt, h, hs, this]
theorem colorAt_n {f : Nat → Int} {s : Int} (h : (cellOk f && inB s 0 3) = false) : colorAt f s = -1 := by
  simp only [colorAt, h]; rfl
/-- how many of the first k sides have the same color -/
def likeTo (f g : Nat → Int) : Nat → Int
  | 0 => 0
  | k + 1 => likeTo f g k + (if colorAt f k == colorAt g k then 1 else 0)
def cellLike (f g : Nat → Int) : Int := if cellOk f && cellOk g then likeTo f g 4 else 0
theorem likeTo_bd (f g : Nat → Int) (k : Nat) : 0 ≤ likeTo f g k ∧ likeTo f g k ≤ k := by
  induction k with
  | zero => simp [likeTo]
  | succ k ih =>
    simp only [likeTo]
    split <;> omega
end Go.Proofs.Ythenjmjnooaokaa
