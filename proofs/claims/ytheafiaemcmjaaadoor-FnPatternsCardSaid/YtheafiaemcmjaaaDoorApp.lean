/- 'append' of one integer to a slice of the call's own: in a plain region and in one that draws its order. -/
import Derived.Test.YtheafiaemcmjaaaDoorInts
import Derived.Deep.AppendLies
import Derived.Deep.RegionHeld3
namespace Go.Proofs.YtheafiaemcmjaaaDoor
open Go.ChangeShapes Go.WideShapes Go.ChangeAt Go.RowKit
theorem OwnI.alloc {w : World} {base : Nat} {v : Value} {zs : List Int} (h : OwnI w base v zs) (o : Obj) : OwnI (w.alloc o) base v zs := World.ownsRow.alloc h o
theorem OwnI.drew {w : World} {base : Nat} {v : Value} {zs : List Int} (h : OwnI w base v zs) : OwnI w.drew base v zs := h
theorem OwnI.shape {w : World} {base : Nat} {v : Value} {zs : List Int} (h : OwnI w base v zs) : ∃ A c, v = .slice A zs.length c := by
  rcases h.2 with ⟨h', hn⟩ | ⟨g', cap', cur, h', _⟩
  · exact ⟨none, 0, by rw [hn]; exact h'⟩
  · exact ⟨_, _, h'⟩
theorem own_empty (w : World) : OwnI (w.alloc (.cells #[] 3)) w.heap.size (.slice (some ⟨w.heap.size, 0, none⟩) 0 0) [] :=
  World.ownsRow_lit w #[] 0 (Nat.le_refl _) (Nat.zero_le _) rfl
theorem own_nil (w : World) (base : Nat) : OwnI w base (.slice none 0 0) [] := World.ownsRow_nil w base _ _
end Go.Proofs.YtheafiaemcmjaaaDoor
