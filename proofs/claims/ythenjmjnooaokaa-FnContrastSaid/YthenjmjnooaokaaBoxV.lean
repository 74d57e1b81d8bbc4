/- A box of values: a block that holds them, one after the other. -/
import Derived.Test.YthenjmjnooaokaaBase
import Derived.Deep.RegionHeld3
import Derived.Deep.AppendLies
namespace Go.Proofs.Ythenjmjnooaokaa
open Go.ChangeShapes Go.WideShapes Go.ChangeAt Go.RowKit
def BoxV (w : World) (b : Nat) (vs : List Value) : Prop := b < w.heap.size ∧ ∀ j v, vs[j]? = some v → w.cell? ⟨b, j, none⟩ = some v
theorem BoxV.below {w w' : World} {b B : Nat} {vs : List Value} (h : BoxV w b vs) (hb : Below B w w') (hB : b < B) : BoxV w' b vs :=
  ⟨Nat.lt_of_lt_of_le h.1 hb.size, fun j v hj => (hb.cell (p := ⟨b, j, none⟩) hB).trans (h.2 j v hj)⟩
theorem boxV_new (w : World) (vs : List Value) (t : TypeId) : BoxV (w.alloc (.cells vs.toArray t)) w.heap.size vs :=
  ⟨by simp, fun j v hj => by rw [cell_of_row _ _ j vs.toArray t (0, 0) (heap_alloc_new w _)]; simpa using hj⟩
theorem BoxV.apart {w w' : World} {b : Nat} {row : Option Nat} {vs : List Value} (h : BoxV w b vs) (hg : w.grownBy w' row) (hne : some b ≠ row) : BoxV w' b vs :=
  ⟨Nat.lt_of_lt_of_le h.1 hg.size, fun j v hj => (World.grownBy.cell_far hg ⟨b, j, none⟩ h.1 hne).trans (h.2 j v hj)⟩
end Go.Proofs.Ythenjmjnooaokaa
