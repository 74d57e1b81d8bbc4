/- Small lemmas for the turning and the mirroring of blocks. -/
import Derived.Test.YthenjmjnooaokaaTurnC
import Derived.Test.YthenjmjnooaokaaBlock
import Derived.Test.YthenjmjnooaokaaBlkE
namespace Go.Proofs.Ythenjmjnooaokaa
open Go.ChangeShapes Go.WideShapes Go.ChangeAt Go.RowKit
theorem rowP_cells {w : World} {B g off n c : Nat} {f : Nat → Nat → Int} (h : RowP 3 w B (some ⟨g, off, none⟩) n c f) {i : Nat} (hi : i < n) : g < B ∧ w.cell? ⟨g, off + i * 3, none⟩ = some (.int .i64 (f i 0)) ∧ w.cell? ⟨g, off + i * 3 + 1, none⟩ = some (.int .i64 (f i 1)) ∧ w.cell? ⟨g, off + i * 3 + 2, none⟩ = some (.int .i64 (f i 2)) := by
  obtain ⟨b, o, e, hb, hc⟩ := h.at_ hi
  cases e
  exact ⟨hb, hc 0 (by omega), by rw [Nat.add_assoc]; exact hc 1 (by omega), by rw [Nat.add_assoc]; exact hc 2 (by omega)⟩
theorem rowP_some {w : World} {B n c : Nat} {A : Option Addr} {f : Nat → Nat → Int} (h : RowP 3 w B A n c f) (hn : 0 < n) : ∃ g off, A = some ⟨g, off, none⟩ := by
  obtain ⟨b, o, e, _⟩ := h.at_ hn
  exact ⟨b, o, e⟩
theorem updS_same (f : Nat → Nat → Int) (k : Nat) {q : Nat → Int} (h : f k = q) : updS f k q = f := by
  funext i
  unfold updS
  split
  · rename_i e; rw [e, h]
  · rfl
theorem turnF_at {s y x : Nat} (f : Nat → Nat → Int) (hx : x < s) : turnF s f (y * s + x) = turnC (f ((s - 1 - x) * s + y)) := by
  unfold turnF
  rw [(place_div (i := y) hx).1, (place_div (i := y) hx).2]
theorem mirF_at {s y x : Nat} (f : Nat → Nat → Int) (hx : x < s) : mirF s f (y * s + x) = mirC (f (y * s + (s - 1 - x))) := by
  unfold mirF
  rw [(place_div (i := y) hx).1, (place_div (i := y) hx).2]
end Go.Proofs.Ythenjmjnooaokaa
