/- A slice of bools that the call itself made. -/
import Derived.Test.YthfhbcgnninlkaaInts
namespace Go.Proofs.Ythfhbcgnninlkaa
open Go.ChangeShapes Go.WideShapes Go.ChangeAt Go.RowKit
/-- the i-th of a list of bools; false behind its end -/
def bth (bs : List Bool) (i : Nat) : Bool := bs.getD i false
theorem bth_get? {bs : List Bool} {i : Nat} (h : i < bs.length) : bs[i]? = some (bth bs i) := by simp [bth, List.getD, h]
def OwnB (w : World) (base : Nat) (v : Value) (bs : List Bool) : Prop := w.ownsRow base 4 1 v bs.length (bs.map Value.bool)
theorem info_bool : (Try.prog.info? 4).map (fun i => (i.zero, i.size, i.bytes)) = some (some (.bool false), 1, 1) := by kernel_rfl
theorem OwnB.size {w : World} {base g n c : Nat} {bs : List Bool} (h : OwnB w base (.slice (some ⟨g, 0, none⟩) n c) bs) : n = bs.length := by
  rcases h.2 with ⟨h', _⟩ | ⟨g', cap', cur, h', _⟩
  · simp at h'
  · simp only [Value.slice.injEq] at h'
    exact h'.2.1
theorem OwnB.cellAt {w : World} {base g n c : Nat} {bs : List Bool} (h : OwnB w base (.slice (some ⟨g, 0, none⟩) n c) bs) {j : Nat} (hj : j < bs.length) : w.cell? ⟨g, j, none⟩ = some (.bool (bth bs j)) := by
  obtain ⟨h1, h2⟩ := h
  rcases h2 with ⟨h', _⟩ | ⟨g', cap', cur, h', _, hg, _, _, _, htake⟩
  · simp at h'
  · simp only [Value.slice.injEq, Option.some.injEq, Addr.mk.injEq, and_true] at h'
    obtain ⟨rfl, rfl, rfl⟩ := h'
    have e : (bs.map Value.bool)[j]? = some (.bool (bth bs j)) := by rw [List.getElem?_map, bth_get? hj]; rfl
    rw [cell_of_row w g j cur _ (0, 0) hg, ← e, ← htake, List.getElem?_take, if_pos (by omega)]
    simp
theorem OwnB.ge {w : World} {base g n c : Nat} {bs : List Bool} (h : OwnB w base (.slice (some ⟨g, 0, none⟩) n c) bs) : base ≤ g ∧ g < w.heap.size := World.ownsRow.lt h g rfl
theorem OwnB.frozenAt {w : World} {base g n c : Nat} {bs : List Bool} (h : OwnB w base (.slice (some ⟨g, 0, none⟩) n c) bs) (j : Nat) : w.frozen? ⟨g, j, none⟩ = false := by
  have e := h.size
  subst e
  exact World.ownsRow.frozenAt h j
theorem OwnB.stored {w : World} {base g n c : Nat} {bs : List Bool} (h : OwnB w base (.slice (some ⟨g, 0, none⟩) n c) bs) (j : Nat) (x : Bool) :
    OwnB (w.setCell ⟨g, j, none⟩ (.bool x)) base (.slice (some ⟨g, 0, none⟩) n c) (bs.set j x) := by
  have e := h.size
  subst e
  have := (World.ownsRow.stored h j (.bool x)).1
  unfold OwnB
  rw [List.length_set, List.map_set]
  exact this
theorem OwnB.keep {w w' : World} {base : Nat} {v : Value} {bs : List Bool} (h : OwnB w base v bs) (hb : Below w.heap.size w w') : OwnB w' base v bs := by
  refine ⟨h.1, ?_⟩
  rcases h.2 with hn | ⟨g, cap, cur, rfl, hbb, hgg, rest⟩
  · exact .inl hn
  · refine .inr ⟨g, cap, cur, rfl, hbb, ?_, rest⟩
    rw [hb.block g (World.ownsRow.lt h g rfl).2]
    exact hgg
theorem OwnB.drew {w : World} {base : Nat} {v : Value} {bs : List Bool} (h : OwnB w base v bs) : OwnB w.drew base v bs := h
theorem OwnB.alloc {w : World} {base : Nat} {v : Value} {bs : List Bool} (h : OwnB w base v bs) (o : Obj) : OwnB (w.alloc o) base v bs := World.ownsRow.alloc h o
theorem ownsB_made {w : World} {base g n : Nat} (h : w.ownsRow base 4 1 (.slice (some ⟨g, 0, none⟩) n n) n (madeCells (Value.bool false).cells (n * 1)).toList) :
    OwnB w base (.slice (some ⟨g, 0, none⟩) n n) (List.replicate n false) := by
  have e : (madeCells (Value.bool false).cells (n * 1)).toList = (List.replicate n false).map Value.bool := by
    rw [List.map_replicate, Nat.mul_one]
    exact toList_madeCells_one _ _
  unfold OwnB
  rw [← e, List.length_replicate]
  exact h
end Go.Proofs.Ythfhbcgnninlkaa
