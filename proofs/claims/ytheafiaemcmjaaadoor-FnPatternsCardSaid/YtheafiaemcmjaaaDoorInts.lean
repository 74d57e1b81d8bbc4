/- Contracts of the small functions on slices of integers. -/
import Derived.Test.YtheafiaemcmjaaaDoorNum
import Derived.Test.YtheafiaemcmjaaaDoorPureB
import Derived.Outline
import Derived.Deep.QuietTactic
import Derived.BigQuiet
namespace Go.Proofs.YtheafiaemcmjaaaDoor
open Go.ChangeShapes Go.WideShapes Go.ChangeAt Go.RowKit
/-- A slice of integers that the call itself made: its elements, in a block from base on. -/
def OwnI (w : World) (base : Nat) (v : Value) (zs : List Int) : Prop := w.ownsRow base 3 1 v zs.length (zs.map (Value.int .i64))
theorem info_int : (Tryd.prog.info? 3).map (fun i => (i.zero, i.size, i.bytes)) = some (some (.int .i64 0), 1, 8) := by kernel_rfl
theorem map_nth (zs : List Int) (j : Nat) (hj : j < zs.length) : (zs.map (Value.int .i64))[j]? = some (.int .i64 (nth zs j)) := by
  rw [List.getElem?_map, nth_get? hj]; rfl
theorem OwnI.cellAt {w : World} {base g n c : Nat} {zs : List Int} (h : OwnI w base (.slice (some ⟨g, 0, none⟩) n c) zs) {j : Nat} (hj : j < zs.length) : w.cell? ⟨g, j, none⟩ = some (.int .i64 (nth zs j)) := by
  obtain ⟨h1, h2⟩ := h
  rcases h2 with ⟨h', _⟩ | ⟨g', cap', cur, h', _, hg, _, _, _, htake⟩
  · simp at h'
  · simp only [Value.slice.injEq, Option.some.injEq, Addr.mk.injEq, and_true] at h'
    obtain ⟨rfl, rfl, rfl⟩ := h'
    rw [cell_of_row w g j cur _ (0, 0) hg, ← map_nth zs j hj, ← htake, List.getElem?_take, if_pos (by omega)]
    simp
theorem OwnI.row {w : World} {base : Nat} {v : Value} {zs : List Int} (h : OwnI w base v zs) (hf : ∀ z ∈ zs, (Lit.int .i64 z).wf = true) : ∃ A c, v = .slice A zs.length c ∧ RowI .i64 w w.heap.size A zs.length c zs := by
  rcases h.2 with ⟨rfl, hn⟩ | ⟨g, cap, cur, rfl, hb, hg, hnc, hcm, hcs, htake⟩
  · refine ⟨none, 0, by rw [hn], rfl, by omega, Nat.zero_le _, hf, fun hh => absurd hh (by omega)⟩
  · refine ⟨_, _, rfl, rfl, hnc, hcm, hf, fun hh => ⟨g, 0, rfl, (Array.getElem?_eq_some_iff.1 hg).1, fun j hj => ?_⟩⟩
    rw [Nat.zero_add]
    exact OwnI.cellAt (base := base) ⟨h.1, .inr ⟨g, cap, cur, rfl, hb, hg, hnc, hcm, hcs, htake⟩⟩ hj
theorem OwnI.size {w : World} {base g n c : Nat} {zs : List Int} (h : OwnI w base (.slice (some ⟨g, 0, none⟩) n c) zs) : n = zs.length := by
  rcases h.2 with ⟨h', _⟩ | ⟨g', cap', cur, h', _⟩
  · simp at h'
  · simp only [Value.slice.injEq] at h'
    exact h'.2.1
theorem OwnI.ge {w : World} {base g n c : Nat} {zs : List Int} (h : OwnI w base (.slice (some ⟨g, 0, none⟩) n c) zs) : base ≤ g ∧ g < w.heap.size := World.ownsRow.lt h g rfl
theorem OwnI.frozenAt {w : World} {base g n c : Nat} {zs : List Int} (h : OwnI w base (.slice (some ⟨g, 0, none⟩) n c) zs) (j : Nat) : w.frozen? ⟨g, j, none⟩ = false := by
  have e := h.size
  subst e
  exact World.ownsRow.frozenAt h j
theorem OwnI.stored {w : World} {base g n c : Nat} {zs : List Int} (h : OwnI w base (.slice (some ⟨g, 0, none⟩) n c) zs) (j : Nat) (x : Int) :
    OwnI (w.setCell ⟨g, j, none⟩ (.int .i64 x)) base (.slice (some ⟨g, 0, none⟩) n c) (zs.set j x) := by
  have e := h.size
  subst e
  have := (World.ownsRow.stored h j (.int .i64 x)).1
  unfold OwnI
  rw [List.length_set, List.map_set]
  exact this
theorem OwnI.below {w w' : World} {base B : Nat} {v : Value} {zs : List Int} (h : OwnI w base v zs) (hb : Below B w w') (hB : ∀ k, v.ownBlock = some k → k < B) : OwnI w' base v zs := by
  refine ⟨h.1, ?_⟩
  rcases h.2 with hn | ⟨g, cap, cur, rfl, hbb, hgg, rest⟩
  · exact .inl hn
  · refine .inr ⟨g, cap, cur, rfl, hbb, ?_, rest⟩
    rw [hb.block g (hB g rfl)]
    exact hgg
theorem OwnI.base {w : World} {base base' : Nat} {v : Value} {zs : List Int} (h : OwnI w base v zs) (hb : base' ≤ base) : OwnI w base' v zs := by
  refine ⟨h.1, ?_⟩
  rcases h.2 with hn | ⟨g, cap, cur, hv, hbb, rest⟩
  · exact .inl hn
  · exact .inr ⟨g, cap, cur, hv, by omega, rest⟩
theorem owns_zero {w : World} {base g n : Nat} (zs : List Int) (hz : zs.length = n) (h : w.ownsRow base 3 1 (.slice (some ⟨g, 0, none⟩) n n) n (madeCells (Value.int .i64 0).cells (n * 1)).toList) :
    OwnI w base (.slice (some ⟨g, 0, none⟩) n n) (filled zs 0) := by
  have e : (madeCells (Value.int .i64 0).cells (n * 1)).toList = (filled zs 0).map (Value.int .i64) := by
    rw [filled_zero, List.map_replicate, Nat.mul_one, hz]
    exact toList_madeCells_one _ _
  unfold OwnI
  rw [← e, filled_len zs (Nat.zero_le _), hz]
  exact h
theorem OwnI.keep {w w' : World} {base : Nat} {v : Value} {zs : List Int} (h : OwnI w base v zs) (hb : Below w.heap.size w w') : OwnI w' base v zs :=
  h.below hb fun k hk => (World.ownsRow.lt h k hk).2
theorem OwnI.grown {w w' : World} {base g : Nat} {v : Value} {zs : List Int} (h : OwnI w base v zs) (hg : w.grownBy w' (some g)) (hne : g < base) : OwnI w' base v zs := by
  refine ⟨h.1, ?_⟩
  rcases h.2 with hn | ⟨g', cap, cur, rfl, hbb, hgg, rest⟩
  · exact .inl hn
  · refine .inr ⟨g', cap, cur, rfl, hbb, ?_, rest⟩
    rw [hg.block g' (Array.getElem?_eq_some_iff.1 hgg).1 (by intro e; injection e with e; omega)]
    exact hgg
/-- the block of a slice's address -/
def blk (A : Option Addr) : Option Nat := A.map (·.block)
theorem OwnI.form {w : World} {base n c : Nat} {A : Option Addr} {zs : List Int} (h : OwnI w base (.slice A n c) zs) : n = zs.length ∧ (A = none ∧ n = 0 ∨ ∃ g, A = some ⟨g, 0, none⟩) := by
  rcases h.2 with ⟨h', hn⟩ | ⟨g', cap', cur, h', _⟩
  · simp only [Value.slice.injEq] at h'
    obtain ⟨rfl, rfl, _⟩ := h'
    exact ⟨hn.symm, .inl ⟨rfl, rfl⟩⟩
  · simp only [Value.slice.injEq] at h'
    obtain ⟨rfl, rfl, _⟩ := h'
    exact ⟨rfl, .inr ⟨g', rfl⟩⟩
theorem OwnI.ge' {w : World} {base n c : Nat} {A : Option Addr} {zs : List Int} (h : OwnI w base (.slice A n c) zs) : ∀ k, blk A = some k → base ≤ k ∧ k < w.heap.size := by
  intro k hk
  refine World.ownsRow.lt h k ?_
  cases A with
  | none => cases hk
  | some a => exact hk
theorem OwnI.rowI {w : World} {base n c : Nat} {A : Option Addr} {zs : List Int} (h : OwnI w base (.slice A n c) zs) (hf : ∀ z ∈ zs, (Lit.int .i64 z).wf = true) : RowI .i64 w w.heap.size A n c zs := by
  obtain ⟨A', c', e, hr⟩ := h.row hf
  simp only [Value.slice.injEq] at e
  obtain ⟨rfl, rfl, rfl⟩ := e
  exact hr
theorem OwnI.apart {w w' : World} {base n c : Nat} {A A' : Option Addr} {zs : List Int} (h : OwnI w base (.slice A n c) zs) (hg : w.grownBy w' (blk A')) (hne : ∀ k, blk A = some k → blk A' = some k → False) : OwnI w' base (.slice A n c) zs := by
  obtain ⟨_, hf⟩ := h.form
  refine ⟨h.1, ?_⟩
  rcases h.2 with hn | ⟨g', cap, cur, hv, hbb, hgg, rest⟩
  · exact .inl hn
  · refine .inr ⟨g', cap, cur, hv, hbb, ?_, rest⟩
    simp only [Value.slice.injEq] at hv
    obtain ⟨rfl, _, _⟩ := hv
    rw [hg.block g' (Array.getElem?_eq_some_iff.1 hgg).1 (fun e => hne g' rfl e.symm)]
    exact hgg
end Go.Proofs.YtheafiaemcmjaaaDoor
