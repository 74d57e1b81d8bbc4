/- Small facts for the walk of the law FnDeadlines. -/
import Derived.Test.YthfhbcgnninlkaaParcD
namespace Go.Proofs.Ythfhbcgnninlkaa
open Go.ChangeShapes Go.WideShapes Go.ChangeAt Go.RowKit
theorem RowP.four {w : World} {B n c b off : Nat} {f : Nat → Nat → Int} (h : RowP 4 w B (some ⟨b, off, none⟩) n c f) {k : Nat} (hk : k < n) :
    w.cell? ⟨b, off + k * 4, none⟩ = some (.int .i64 (f k 0)) ∧ w.cell? ⟨b, off + k * 4 + 1, none⟩ = some (.int .i64 (f k 1)) ∧ w.cell? ⟨b, off + k * 4 + 2, none⟩ = some (.int .i64 (f k 2)) ∧ w.cell? ⟨b, off + k * 4 + 3, none⟩ = some (.int .i64 (f k 3)) := by
  obtain ⟨b', off', e, _, hc⟩ := h.at_ hk
  simp only [Option.some.injEq, Addr.mk.injEq, and_true] at e
  obtain ⟨rfl, rfl⟩ := e
  exact ⟨hc 0 (by omega), by rw [Nat.add_assoc]; exact hc 1 (by omega), by rw [Nat.add_assoc]; exact hc 2 (by omega), by rw [Nat.add_assoc]; exact hc 3 (by omega)⟩
/-- is a late parcel of v among the first k? -/
def fnd (f : Nat → Nat → Int) (a d t v : Int) : Nat → Bool
  | 0 => false
  | k + 1 => fnd f a d t v k || ((f k 1 == v) && decide (0 < lateDays (f k) a d t))
theorem fnd_true {f : Nat → Nat → Int} {a d t v : Int} {n : Nat} (h : ∃ k, k < n ∧ f k 1 = v ∧ 0 < lateDays (f k) a d t) : fnd f a d t v n = true := by
  induction n with
  | zero => obtain ⟨k, hk, _⟩ := h; omega
  | succ n ih =>
    obtain ⟨k, hk, h1, h2⟩ := h
    rcases (by omega : k < n ∨ k = n) with e | rfl
    · simp [fnd, ih ⟨k, e, h1, h2⟩]
    · simp [fnd, h1, h2]
theorem due_zero {a d : Int} (h1 : 0 ≤ a) (h2 : a ≤ 255) (h3 : 1 ≤ d) (h4 : d ≤ 30) : dueDay a 0 d = a + d := by
  rw [due_is h1 (by omega) (by omega) (by omega) h3 (by omega)]; omega
theorem due_23 : dueDay 3 1 10 = 23 := by decide
end Go.Proofs.Ythfhbcgnninlkaa
