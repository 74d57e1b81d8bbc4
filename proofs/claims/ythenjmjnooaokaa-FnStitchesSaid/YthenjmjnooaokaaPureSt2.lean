/- The thread of a layout is the thread of its seams. No program in sight. -/
import Derived.Test.YthenjmjnooaokaaPureSt
import Derived.Test.YthenjmjnooaokaaPureLay
namespace Go.Proofs.Ythenjmjnooaokaa
theorem lthread_eq {W H : Int} {n : Nat} {f : Nat → Nat → Int} {c : Int} (h1 : 1 ≤ c) (h2 : c ≤ 40) : layoutThread W H n f c = threadFor (seam W H n f * c) := by
  unfold layoutThread
  rw [inB_mk h1 h2]
  rcases (by omega : seam W H n f < 0 ∨ 0 ≤ seam W H n f) with h | h
  · rw [decide_eq_true h, Bool.true_or, if_pos rfl]
    have : seam W H n f * c ≤ -1 := by
      have h3 : seam W H n f * c ≤ (-1) * c := Int.mul_le_mul_of_nonneg_right (by omega) (by omega)
      omega
    unfold threadFor
    rw [inB_no (by omega)]
    rfl
  · rw [decide_eq_false (by omega)]
    rfl
theorem seam_mul {W H : Int} {n : Nat} {f : Nat → Nat → Int} {c : Int} (h1 : 1 ≤ c) (h2 : c ≤ 40) : -20000 ≤ seam W H n f * c ∧ seam W H n f * c ≤ 20000 := by
  have hb := seam_bd W H n f
  constructor
  · have h3 : (-24) * c ≤ seam W H n f * c := Int.mul_le_mul_of_nonneg_right (by omega) (by omega)
    omega
  · have h3 : seam W H n f * c ≤ 288 * c := Int.mul_le_mul_of_nonneg_right (by omega) (by omega)
    omega
end Go.Proofs.Ythenjmjnooaokaa
