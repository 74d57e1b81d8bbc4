/- Contracts of CellLikeness, of the colors at a common side: the program's and the reference's. -/
import Derived.Test.YtheafiaemcmjaaaDoorCell
import Derived.Deep.RegionHeld3
namespace Go.Proofs.YtheafiaemcmjaaaDoor
open Go.ChangeShapes Go.WideShapes Go.ChangeAt Go.RowKit
/-- A box of a cell: block b holds its three numbers. -/
def Box3 (w : World) (b : Nat) (f : Nat → Int) : Prop := b < w.heap.size ∧ w.cell? ⟨b, 0, none⟩ = some (.int .i64 (f 0)) ∧ w.cell? ⟨b, 1, none⟩ = some (.int .i64 (f 1)) ∧ w.cell? ⟨b, 2, none⟩ = some (.int .i64 (f 2))
theorem Box3.below {w w' : World} {b B : Nat} {f : Nat → Int} (h : Box3 w b f) (hb : Below B w w') (hB : b < B) : Box3 w' b f :=
  ⟨Nat.lt_of_lt_of_le h.1 hb.size, (hb.cell (p := ⟨b, 0, none⟩) hB).trans h.2.1, (hb.cell (p := ⟨b, 1, none⟩) hB).trans h.2.2.1, (hb.cell (p := ⟨b, 2, none⟩) hB).trans h.2.2.2⟩
end Go.Proofs.YtheafiaemcmjaaaDoor
