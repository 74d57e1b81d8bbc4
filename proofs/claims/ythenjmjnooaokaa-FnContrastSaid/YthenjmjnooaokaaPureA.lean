/- Plain functions and their laws: what the small functions on integers compute. No program in sight. -/
import Derived.IntWalk
namespace Go.Proofs.Ythenjmjnooaokaa
/-- a ≤ n ≤ b -/
def inB (n a b : Int) : Bool := decide (a ≤ n) && decide (n ≤ b)
theorem inB_t {n a b : Int} (h : inB n a b = true) : a ≤ n ∧ n ≤ b := by simpa [inB] using h
theorem inB_f {n a b : Int} (h : inB n a b = false) : n < a ∨ b < n := by
  simp [inB] at h; by_cases h1 : a ≤ n
  · exact Or.inr (h h1)
  · exact Or.inl (by omega)
theorem inB_mk {n a b : Int} (h1 : a ≤ n) (h2 : n ≤ b) : inB n a b = true := by simp [inB, h1, h2]
theorem inB_no {n a b : Int} (h : n < a ∨ b < n) : inB n a b = false := by
  simp [inB]; omega
theorem inB_or (n a b : Int) : (inB n a b = true ∧ a ≤ n ∧ n ≤ b) ∨ inB n a b = false := by
  rcases Bool.eq_false_or_eq_true (inB n a b) with h | h
  · exact Or.inl ⟨h, inB_t h⟩
  · exact Or.inr h
/-- a divided by b, rounded up (for 0 ≤ a, 0 < b) -/
def upI (a b : Int) : Int := (a + b - 1) / b
def dueDay (a b c : Int) : Int := if inB a 0 9999 && inB b 0 8 && inB c 1 365 then a + (b + 1) * c else -1
theorem due_mul {b c : Int} (h1 : 0 ≤ b) (h2 : b ≤ 8) (h3 : 1 ≤ c) (h4 : c ≤ 365) : 0 ≤ (b + 1) * c ∧ (b + 1) * c ≤ 3285 :=
  ⟨Int.mul_nonneg (by omega) (by omega), Int.le_trans (Int.mul_le_mul (by omega : b + 1 ≤ 9) (by omega : c ≤ 365) (by omega) (by omega)) (by omega)⟩
def sewMin (a b : Int) : Int := if inB a 0 1000000 && inB b 1 2000 then upI a b else -1
def stitches (a b : Int) : Int := if inB a 0 100000 && inB b 1 40 then upI (a * b) 8 else -1
theorem sti_mul {a b : Int} (h1 : 0 ≤ a) (h2 : a ≤ 100000) (h3 : 1 ≤ b) (h4 : b ≤ 40) : 0 ≤ a * b ∧ a * b ≤ 4000000 :=
  ⟨Int.mul_nonneg (by omega) (by omega), Int.le_trans (Int.mul_le_mul (by omega : a ≤ 100000) (by omega : b ≤ 40) (by omega) (by omega)) (by omega)⟩
def threadFor (a : Int) : Int := if inB a 0 100000 then upI (a * 5) 2 else -1
def bobbins (a b : Int) : Int := if inB a 0 1000000 && inB b 1 10000 then upI (upI a 2) b else -1
def parcelOk (f : Nat → Int) : Bool := inB (f 0) 0 8 && inB (f 1) 0 9 && inB (f 2) 0 9999 && (f 3 == -1 || inB (f 3) (f 2) 9999)
end Go.Proofs.Ythenjmjnooaokaa
