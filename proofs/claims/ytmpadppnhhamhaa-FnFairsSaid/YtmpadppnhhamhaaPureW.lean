/- Plain functions on sheets: one quilt beats another one by pairs; the winner. No program in sight. -/
import Derived.Test.YtmpadppnhhamhaaPureT
namespace Go.Proofs.Ytmpadppnhhamhaa
/-- how many more of the first j rows prefer i to k than k to i -/
def margin (z : Nat → List Int) (i k : Nat) : Nat → Int
  | 0 => 0
  | j + 1 => margin z i k j + (if nth (z j) k < nth (z j) i then 1 else if nth (z j) i < nth (z j) k then -1 else 0)
theorem margin_bd (z : Nat → List Int) (i k j : Nat) : -(j : Int) ≤ margin z i k j ∧ margin z i k j ≤ j := by
  induction j with
  | zero => simp [margin]
  | succ j ih => simp only [margin]; split <;> (try split) <;> omega
def beats (z : Nat → List Int) (n : Nat) (i k : Int) : Bool := sheetOk z n && inB i 0 ((z 0).length - 1) && inB k 0 ((z 0).length - 1) && decide (0 < margin z i.toNat k.toNat n)
theorem beats_no {z : Nat → List Int} {n : Nat} {i k : Int} (h : (sheetOk z n && inB i 0 ((z 0).length - 1) && inB k 0 ((z 0).length - 1)) = false) : beats z n i k = false := by
  unfold beats; rw [h]; rfl
theorem beats_yes {z : Nat → List Int} {n : Nat} {i k : Int} (h : (sheetOk z n && inB i 0 ((z 0).length - 1) && inB k 0 ((z 0).length - 1)) = true) : beats z n i k = decide (0 < margin z i.toNat k.toNat n) := by
  unfold beats; rw [h]; rfl
end Go.Proofs.Ytmpadppnhhamhaa
