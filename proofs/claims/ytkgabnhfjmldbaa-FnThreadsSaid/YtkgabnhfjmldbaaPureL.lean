/- Plain functions on parcels: how late one is. No program in sight. -/
import Derived.Test.YtkgabnhfjmldbaaPureB
namespace Go.Proofs.Ytkgabnhfjmldbaa
def lateDays (f : Nat → Int) (a c t : Int) : Int :=
  if parcelOk f && decide (0 ≤ dueDay a (f 0) c) && inB t 0 99999 then max ((if f 3 == -1 then t else f 3) - dueDay a (f 0) c) 0 else -1
theorem dueDay_bd (a b c : Int) : -1 ≤ dueDay a b c ∧ dueDay a b c ≤ 13284 := by
  unfold dueDay
  split
  · rename_i h
    simp only [Bool.and_eq_true] at h
    have h1 := inB_t h.1.1
    have h2 := inB_t h.1.2
    have h3 := inB_t h.2
    have := due_mul h2.1 h2.2 h3.1 h3.2
    omega
  · omega
theorem parcelOk_t {f : Nat → Int} (h : parcelOk f = true) : (0 ≤ f 0 ∧ f 0 ≤ 8) ∧ (0 ≤ f 1 ∧ f 1 ≤ 9) ∧ (0 ≤ f 2 ∧ f 2 ≤ 9999) ∧ (f 3 = -1 ∨ (f 2 ≤ f 3 ∧ f 3 ≤ 9999)) := by
  simp only [parcelOk, Bool.and_eq_true, Bool.or_eq_true, beq_iff_eq] at h
  refine ⟨inB_t h.1.1.1, inB_t h.1.1.2, inB_t h.1.2, ?_⟩
  rcases h.2 with h | h
  · exact .inl h
  · exact .inr (inB_t h)
theorem lateDays_yes {f : Nat → Int} {a c t : Int} (hP : parcelOk f = true) (hD : 0 ≤ dueDay a (f 0) c) (hT : inB t 0 99999 = true) (h3 : (f 3 == -1) = true) : lateDays f a c t = max (t - dueDay a (f 0) c) 0 := by
  simp [lateDays, hP, hD, hT, h3]
theorem lateDays_came {f : Nat → Int} {a c t : Int} (hP : parcelOk f = true) (hD : 0 ≤ dueDay a (f 0) c) (hT : inB t 0 99999 = true) (h3 : (f 3 == -1) = false) : lateDays f a c t = max (f 3 - dueDay a (f 0) c) 0 := by
  simp [lateDays, hP, hD, hT, h3]
theorem lateDays_no {f : Nat → Int} {a c t : Int} (h : (parcelOk f && decide (0 ≤ dueDay a (f 0) c) && inB t 0 99999) = false) : lateDays f a c t = -1 := by
  simp only [lateDays, h]; rfl
theorem lateDays_bd (f : Nat → Int) (a c t : Int) : -1 ≤ lateDays f a c t ∧ lateDays f a c t ≤ 100000 := by
  unfold lateDays
  split
  · rename_i h
    simp only [Bool.and_eq_true, decide_eq_true_eq] at h
    have h1 := parcelOk_t h.1.1
    have h2 := inB_t h.2
    split <;> omega
  · omega
end Go.Proofs.Ytkgabnhfjmldbaa
