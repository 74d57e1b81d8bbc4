/- Plain functions on sheets of points. No program in sight. -/
import Derived.Test.YtmpadppnhhamhaaPureB
namespace Go.Proofs.Ytmpadppnhhamhaa
def rowOk (z : Nat → List Int) (k : Nat) : Bool := decide ((z k).length = (z 0).length) && inB (z k).length 1 12 && allIn (z k) 0 100
def rowsOk (z : Nat → List Int) (n : Nat) : Bool := (List.range n).all (rowOk z)
def sheetOk (z : Nat → List Int) (n : Nat) : Bool := rowsOk z n && inB n 1 9
theorem rowsOk_snoc {z : Nat → List Int} {k : Nat} (h : rowsOk z k = true) (hk : rowOk z k = true) : rowsOk z (k + 1) = true := by
  unfold rowsOk at h ⊢
  rw [List.range_succ, List.all_append, h]
  simp [hk]
theorem rowsOk_no {z : Nat → List Int} {k n : Nat} (hk : k < n) (h : rowOk z k = false) : rowsOk z n = false := by
  unfold rowsOk
  rw [List.all_eq_false]
  exact ⟨k, List.mem_range.2 hk, by simp [h]⟩
theorem sheetOk_no {z : Nat → List Int} {k n : Nat} (hk : k < n) (h : rowOk z k = false) : sheetOk z n = false := by
  unfold sheetOk; rw [rowsOk_no hk h]; rfl
theorem rowsOk_t {z : Nat → List Int} {n k : Nat} (h : rowsOk z n = true) (hk : k < n) : rowOk z k = true := List.all_eq_true.1 h k (List.mem_range.2 hk)
theorem rowOk_t {z : Nat → List Int} {k : Nat} (h : rowOk z k = true) : (z k).length = (z 0).length ∧ 1 ≤ (z k).length ∧ (z k).length ≤ 12 ∧ ∀ i, i < (z k).length → 0 ≤ nth (z k) i ∧ nth (z k) i ≤ 100 := by
  simp only [rowOk, Bool.and_eq_true, decide_eq_true_eq] at h
  obtain ⟨⟨h1, h2⟩, h3⟩ := h
  have := inB_t h2
  exact ⟨h1, by omega, by omega, fun i hi => allIn_t h3 hi⟩
structure Sheet (z : Nat → List Int) (n m : Nat) : Prop where
  n1 : 1 ≤ n
  n9 : n ≤ 9
  m1 : 1 ≤ m
  m12 : m ≤ 12
  len : ∀ k, k < n → (z k).length = m
  bd : ∀ k, k < n → ∀ i, i < m → 0 ≤ nth (z k) i ∧ nth (z k) i ≤ 100
theorem sheetOk_t {z : Nat → List Int} {n : Nat} (h : sheetOk z n = true) : Sheet z n (z 0).length := by
  simp only [sheetOk, Bool.and_eq_true] at h
  have hb := inB_t h.2
  have h0 := rowOk_t (rowsOk_t h.1 (show 0 < n by omega))
  refine ⟨by omega, by omega, h0.2.1, h0.2.2.1, fun k hk => (rowOk_t (rowsOk_t h.1 hk)).1, fun k hk i hi => ?_⟩
  have hr := rowOk_t (rowsOk_t h.1 hk)
  exact hr.2.2.2 i (by omega)
end Go.Proofs.Ytmpadppnhhamhaa
