/- Plain functions on plans: how many send to themselves. No program in sight. -/
import Derived.Test.YtkglgbdiakinlaaPureB
namespace Go.Proofs.Ytkglgbdiakinlaa
/-- how many of the first k members of a round send to themselves -/
def idleTo (r : List Int) : Nat → Int
  | 0 => 0
  | k + 1 => idleTo r k + (if (k : Int) = nth r k then 1 else 0)
theorem idleTo_bd (r : List Int) (k : Nat) : 0 ≤ idleTo r k ∧ idleTo r k ≤ k := by
  induction k with
  | zero => simp [idleTo]
  | succ k ih => simp only [idleTo]; split <;> omega
def idles (z : Nat → List Int) (n : Nat) : List Int := (List.range n).map fun j => idleTo (z j) (z j).length
theorem idles_len (z : Nat → List Int) (n : Nat) : (idles z n).length = n := by simp [idles]
theorem nth_idles {z : Nat → List Int} {n j : Nat} (h : j < n) : nth (idles z n) j = idleTo (z j) (z j).length := nth_map_range h
theorem idles_wf {z : Nat → List Int} {n : Nat} (h : ∀ j, j < n → (z j).length ≤ 1048576) : ∀ x ∈ idles z n, (Lit.int .i64 x).wf = true := by
  intro x hx
  simp only [idles, List.mem_map, List.mem_range] at hx
  obtain ⟨j, hj, rfl⟩ := hx
  have h1 := h j hj
  have h2 := idleTo_bd (z j) (z j).length
  exact WalkArith.wf_i64 (by omega)
end Go.Proofs.Ytkglgbdiakinlaa
