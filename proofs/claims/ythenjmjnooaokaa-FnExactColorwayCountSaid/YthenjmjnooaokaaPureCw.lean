/- Plain functions on blocks: the colors of a block, the number of its colorways. No program in sight. -/
import Derived.Test.YthenjmjnooaokaaPureBl
import Derived.Test.YthenjmjnooaokaaPureJ
namespace Go.Proofs.Ythenjmjnooaokaa
/-- is color a among those of the first k cells? -/
def usedTo (f : Nat → Nat → Int) (a : Nat) : Nat → Bool
  | 0 => false
  | k + 1 => usedTo f a k || (f k 1 == (a : Int)) || (f k 2 == (a : Int))
def cellArea (f : Nat → Int) (a : Int) : Int := (if f 1 == a then 2 else 0) + (if f 2 == a then 2 else 0)
theorem cellArea_bd (f : Nat → Int) (a : Int) : 0 ≤ cellArea f a ∧ cellArea f a ≤ 4 := by
  unfold cellArea; split <;> split <;> omega
def areaSum (f : Nat → Nat → Int) (a : Int) : Nat → Int
  | 0 => 0
  | k + 1 => areaSum f a k + cellArea (f k) a
theorem areaSum_bd (f : Nat → Nat → Int) (a : Int) (k : Nat) : 0 ≤ areaSum f a k ∧ areaSum f a k ≤ 4 * k := by
  induction k with
  | zero => simp [areaSum]
  | succ k ih => have := cellArea_bd (f k) a; simp only [areaSum]; omega
theorem area_used (f : Nat → Nat → Int) (a k : Nat) : decide (0 < areaSum f a k) = usedTo f a k := by
  induction k with
  | zero => rfl
  | succ k ih =>
    have h1 := areaSum_bd f a k
    have e : areaSum f a (k + 1) = areaSum f a k + ((if f k 1 == (a : Int) then 2 else 0) + (if f k 2 == (a : Int) then 2 else 0)) := rfl
    have e2 : usedTo f a (k + 1) = (usedTo f a k || (f k 1 == (a : Int)) || (f k 2 == (a : Int))) := rfl
    rw [e2, ← ih]
    rcases Bool.eq_false_or_eq_true (f k 1 == (a : Int)) with x | x <;> rcases Bool.eq_false_or_eq_true (f k 2 == (a : Int)) with y | y
    · rw [x, y, if_pos rfl] at e; rw [x, Bool.or_true, Bool.true_or]; exact decide_eq_true (by omega)
    · rw [x, y, if_pos rfl] at e; rw [x, Bool.or_true, Bool.true_or]; exact decide_eq_true (by simp at e; omega)
    · rw [x, y, if_pos rfl] at e; rw [y, Bool.or_true]; exact decide_eq_true (by simp at e; omega)
    · rw [x, y] at e; rw [x, y, Bool.or_false, Bool.or_false]
      have e3 : areaSum f a (k + 1) = areaSum f a k := by simp at e; omega
      rw [e3]
def colorsN (f : Nat → Nat → Int) (n : Nat) : List Int := membs (fun a => usedTo f a n) 6
def colorsOf (s : Int) (n : Nat) (f : Nat → Nat → Int) : List Int := if blockOk s n f then colorsN f n else []
def choices : Nat → Int
  | 0 => 1
  | k + 1 => choices k * (6 - (k : Int))
theorem choices_bd : ∀ k, k ≤ 6 → 1 ≤ choices k ∧ choices k ≤ 720 := by
  have h : ∀ k : Fin 7, 1 ≤ choices k.val ∧ choices k.val ≤ 720 := by decide
  exact fun k hk => h ⟨k, by omega⟩
theorem colorsN_len (f : Nat → Nat → Int) (n : Nat) : (colorsN f n).length ≤ 6 := membs_len _ _
def colorways (s : Int) (n : Nat) (f : Nat → Nat → Int) : Int := if blockOk s n f then choices (colorsN f n).length else 0
end Go.Proofs.Ythenjmjnooaokaa
