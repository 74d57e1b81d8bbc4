/- Plain functions on plans: whether a plan has rounds of n members. No program in sight. -/
import Derived.Test.YthenjmjnooaokaaPureB
namespace Go.Proofs.Ythenjmjnooaokaa
def rowOk (n : Int) (r : List Int) : Bool := ((r.length : Int) == n) && allIn r 0 (n - 1)
def plansTo (n : Int) (z : Nat → List Int) : Nat → Bool
  | 0 => true
  | j + 1 => plansTo n z j && rowOk n (z j)
def plansOk (n : Int) (z : Nat → List Int) (l : Nat) : Bool := inB n 2 10 && decide (l ≤ 9) && plansTo n z l
theorem plansTo_down {n : Int} {z : Nat → List Int} {j l : Nat} (h : j ≤ l) (hl : plansTo n z l = true) : plansTo n z j = true := by
  induction h with
  | refl => exact hl
  | step _ ih => exact ih (Bool.and_eq_true_iff.1 hl).1
theorem plansTo_row {n : Int} {z : Nat → List Int} {j l : Nat} (h : j < l) (hl : plansTo n z l = true) : rowOk n (z j) = true := (Bool.and_eq_true_iff.1 (plansTo_down (show j + 1 ≤ l by omega) hl)).2
theorem plansTo_no {n : Int} {z : Nat → List Int} {j l : Nat} (h : j < l) (hr : rowOk n (z j) = false) : plansOk n z l = false := by
  rcases Bool.eq_false_or_eq_true (plansTo n z l) with e | e
  · rw [plansTo_row h e] at hr; cases hr
  · unfold plansOk; rw [e, Bool.and_false]
theorem plansOk_yes {n : Int} {z : Nat → List Int} {l : Nat} (h1 : inB n 2 10 = true) (h2 : l ≤ 9) (h3 : plansTo n z l = true) : plansOk n z l = true := by
  unfold plansOk; rw [h1, h3, decide_eq_true h2]; rfl
theorem plansOk_n {n : Int} {z : Nat → List Int} {l : Nat} (h1 : inB n 2 10 = false) : plansOk n z l = false := by
  unfold plansOk; rw [h1]; rfl
theorem plansOk_l {n : Int} {z : Nat → List Int} {l : Nat} (h1 : 9 < l) : plansOk n z l = false := by
  unfold plansOk; rw [decide_eq_false (by omega : ¬ l ≤ 9), Bool.and_false, Bool.false_and]
/-- what holds of a plan -/
structure Plan (n : Int) (z : Nat → List Int) (l : Nat) : Prop where
  n1 : 2 ≤ n
  n9 : n ≤ 10
  l9 : l ≤ 9
  len : ∀ j, j < l → ((z j).length : Int) = n
  bd : ∀ j, j < l → ∀ i, i < (z j).length → 0 ≤ nth (z j) i ∧ nth (z j) i ≤ n - 1
theorem plan_of {n : Int} {z : Nat → List Int} {l : Nat} (h : plansOk n z l = true) : Plan n z l := by
  unfold plansOk at h
  have h1 := Bool.and_eq_true_iff.1 h
  have h2 := Bool.and_eq_true_iff.1 h1.1
  have hb := inB_t h2.1
  have hr : ∀ j, j < l → rowOk n (z j) = true := fun j hj => plansTo_row hj h1.2
  exact ⟨hb.1, hb.2, of_decide_eq_true h2.2, fun j hj => beq_iff_eq.1 (Bool.and_eq_true_iff.1 (hr j hj)).1, fun j hj i hi => allIn_t (Bool.and_eq_true_iff.1 (hr j hj)).2 hi⟩
end Go.Proofs.Ythenjmjnooaokaa
