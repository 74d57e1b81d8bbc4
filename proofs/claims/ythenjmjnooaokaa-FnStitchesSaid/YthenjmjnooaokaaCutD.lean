/- Contracts of the reference's drawing of layouts: SampleLayout, l09Cut, DrawLayout. -/
import Derived.Test.YthenjmjnooaokaaCurs
import Derived.Test.YthenjmjnooaokaaAppS
import Derived.Outline
import Derived.Deep.DeepCutAuto
namespace Go.Proofs.Ythenjmjnooaokaa
open Go.ChangeShapes Go.WideShapes Go.ChangeAt Go.RowKit
/-- the numbers of a drawn patch -/
def PatchI (q : Nat → Int) : Prop := 0 ≤ q 0 ∧ 0 ≤ q 1 ∧ 1 ≤ q 2 ∧ 1 ≤ q 3 ∧ q 0 + q 2 ≤ 9 ∧ q 1 + q 3 ≤ 9 ∧ 0 ≤ q 4 ∧ q 4 ≤ 5
theorem PatchI.wf {q : Nat → Int} (h : PatchI q) {j : Nat} (hj : j < 5) : (Lit.int .i64 (q j)).wf = true := by
  obtain ⟨h0, h1, h2, h3, h4, h5, h6, h7⟩ := h
  rcases (by omega : j = 0 ∨ j = 1 ∨ j = 2 ∨ j = 3 ∨ j = 4) with rfl | rfl | rfl | rfl | rfl <;> exact WalkArith.wf_i64 (by omega)
def five (a b c d e : Int) : Nat → Int := fun j => match j with | 0 => a | 1 => b | 2 => c | 3 => d | _ => e
def sampleF : Nat → Nat → Int := fun i => match i with
  | 0 => five 0 0 2 1 0 | 1 => five 2 0 1 2 1 | 2 => five 1 2 2 1 2 | 3 => five 0 1 1 2 3 | _ => five 1 1 1 1 4
theorem sampleF_ok (i : Nat) : PatchI (sampleF i) := by
  unfold PatchI sampleF
  rcases i with _ | _ | _ | _ | i <;> simp [five]
theorem cur_alloc {w : World} {b n c : Nat} {A : Option Addr} (h : CurAt w b A n c) (o : Obj) : CurAt (w.alloc o) b A n c := by
  obtain ⟨i, x, hi, hh⟩ := h
  exact ⟨i, x, hi, blk_alloc hh o⟩
theorem cur_set {w : World} {b n c : Nat} {A : Option Addr} (h : CurAt w b A n c) {p : Addr} (hne : b ≠ p.block) (u : Value) : CurAt (w.setCell p u) b A n c := by
  obtain ⟨i, x, hi, hh⟩ := h
  exact ⟨i, x, hi, blk_set hh hne u⟩
theorem info_patchD : (Try.prog.info? 105).map (fun i => (i.zero, i.size, i.bytes)) = some (some (.agg #[.int .i64 0, .int .i64 0, .int .i64 0, .int .i64 0, .int .i64 0]), 5, 40) := by kernel_rfl
set_option maxHeartbeats 2000000 in
theorem sample_any (w : World) : Calls Try.prog 106 #[] w fun e w' => ∃ g, e = .returned (.agg #[.int .i64 3, .int .i64 3, .slice (some ⟨g, 0, none⟩) 5 5]) ∧ OwnS 5 105 w' w.heap.size (.slice (some ⟨g, 0, none⟩) 5 5) 5 sampleF ∧ Below w.heap.size w w' := by
  go_enter Try.func106, Try.ntmps106
  go_wp2_with fail
  have hz : (w.alloc (.cells #[.int .i64 3, .int .i64 3, .slice (some ⟨w.heap.size + 1, 0, none⟩) 5 5] 70)).heap.size = w.heap.size + 1 := by simp
  have ho := World.ownsRow_lit (e := 105) (size := 5) (base := w.heap.size) (w.alloc (.cells #[.int .i64 3, .int .i64 3, .slice (some ⟨w.heap.size + 1, 0, none⟩) 5 5] 70)) #[.int .i64 0, .int .i64 0, .int .i64 2, .int .i64 1, .int .i64 0, .int .i64 2, .int .i64 0, .int .i64 1, .int .i64 2, .int .i64 1, .int .i64 1, .int .i64 2, .int .i64 2, .int .i64 1, .int .i64 2, .int .i64 0, .int .i64 1, .int .i64 1, .int .i64 2, .int .i64 3, .int .i64 1, .int .i64 1, .int .i64 1, .int .i64 1, .int .i64 4] 5 (by omega) (by unfold maxLen; omega) rfl
  rw [hz] at ho
  refine bodyPost_ret (v := .agg #[.int .i64 3, .int .i64 3, .slice (some ⟨w.heap.size + 1, 0, none⟩) 5 5]) (by simp [results, Try.results106, go_sem]) rfl ⟨w.heap.size + 1, rfl, ho, ((Below.refl _ _).alloc (Nat.le_refl _) _).alloc (by simp) _⟩
/-- what holds of the world while a layout is cut: the cursor in b, the result's box g0, the layout's box g3 with its patches in gr -/
structure CutSt (B b base : Nat) (A : Option Addr) (n c : Nat) (g0 g3 : Nat) (W H : Int) (gr N cN : Nat) (f : Nat → Nat → Int) (w0 w : World) : Prop where
  cur : CurAt w b A n c
  res : w.heap[g0]? = some (.cells #[.int .i64 0, .int .i64 0, .slice none 0 0] 70 (0, 0))
  box : w.heap[g3]? = some (.cells #[.int .i64 W, .int .i64 H, .slice (some ⟨gr, 0, none⟩) N cN] 70 (0, 0))
  row : OwnS 5 105 w base (.slice (some ⟨gr, 0, none⟩) N cN) N f
  bel : Below B w0 w
/-- the same without the patches -/
structure CutFr (B b : Nat) (A : Option Addr) (n c : Nat) (g0 g3 : Nat) (W H : Int) (gr N cN : Nat) (w0 w : World) : Prop where
  cur : CurAt w b A n c
  res : w.heap[g0]? = some (.cells #[.int .i64 0, .int .i64 0, .slice none 0 0] 70 (0, 0))
  box : w.heap[g3]? = some (.cells #[.int .i64 W, .int .i64 H, .slice (some ⟨gr, 0, none⟩) N cN] 70 (0, 0))
  bel : Below B w0 w
theorem row_box_ne {w : World} {base e t m g gb n c : Nat} {f : Nat → Nat → Int} {cs : Array Value} (h : OwnS m e w base (.slice (some ⟨g, 0, none⟩) n c) n f) (hb : w.heap[gb]? = some (.cells cs t (0, 0))) (hne : e ≠ t) : g ≠ gb := by
  intro e
  subst e
  rcases h.2 with ⟨h', _⟩ | ⟨g', cap', cur, h', _, hg, _⟩
  · cases h'
  · simp only [Value.slice.injEq, Option.some.injEq, Addr.mk.injEq, and_true] at h'
    obtain ⟨rfl, _⟩ := h'
    rw [hg] at hb
    simp only [Option.some.injEq, Obj.cells.injEq] at hb
    exact hne hb.2.1
section
variable {B b base : Nat} {A : Option Addr} {n c g0 g3 : Nat} {W H : Int} {gr N cN : Nat} {f : Nat → Nat → Int} {w0 w w' : World}
theorem CutSt.ne3 (h : CutSt B b base A n c g0 g3 W H gr N cN f w0 w) : gr ≠ g3 := by
  intro e
  subst e
  rcases h.row.2 with ⟨h', _⟩ | ⟨g', cap', cur, h', _, hg, _⟩
  · cases h'
  · simp only [Value.slice.injEq, Option.some.injEq, Addr.mk.injEq, and_true] at h'
    obtain ⟨rfl, _⟩ := h'
    have := h.box
    rw [hg] at this
    simp only [Option.some.injEq, Obj.cells.injEq] at this
    exact absurd this.2.1 (by decide)
theorem CutSt.ne0 (h : CutSt B b base A n c g0 g3 W H gr N cN f w0 w) : gr ≠ g0 := by
  intro e
  subst e
  rcases h.row.2 with ⟨h', _⟩ | ⟨g', cap', cur, h', _, hg, _⟩
  · cases h'
  · simp only [Value.slice.injEq, Option.some.injEq, Addr.mk.injEq, and_true] at h'
    obtain ⟨rfl, _⟩ := h'
    have := h.res
    rw [hg] at this
    simp only [Option.some.injEq, Obj.cells.injEq] at this
    exact absurd this.2.1 (by decide)
theorem CutSt.fr (h : CutSt B b base A n c g0 g3 W H gr N cN f w0 w) : CutFr B b A n c g0 g3 W H gr N cN w0 w := ⟨h.cur, h.res, h.box, h.bel⟩
theorem CutFr.alloc (h : CutFr B b A n c g0 g3 W H gr N cN w0 w) (hB : B ≤ w.heap.size) (o : Obj) : CutFr B b A n c g0 g3 W H gr N cN w0 (w.alloc o) :=
  ⟨cur_alloc h.cur o, blk_alloc h.res o, blk_alloc h.box o, h.bel.alloc hB o⟩
theorem CutFr.set (h : CutFr B b A n c g0 g3 W H gr N cN w0 w) {p : Addr} (h0 : b ≠ p.block) (h1 : g0 ≠ p.block) (h2 : g3 ≠ p.block) (hB : B ≤ p.block) (x : Value) : CutFr B b A n c g0 g3 W H gr N cN w0 (w.setCell p x) :=
  ⟨cur_set h.cur h0 x, blk_set h.res h1 x, blk_set h.box h2 x, h.bel.setCell hB x⟩
theorem CutFr.grownRow {g : Nat} (h : CutFr B b A n c g0 g3 W H gr N cN w0 w) (hg : w.grownBy w' (some g)) (h0 : b ≠ g) (h1 : g0 ≠ g) (h2 : g3 ≠ g) (hB : B ≤ g) (hw : B ≤ w.heap.size) : CutFr B b A n c g0 g3 W H gr N cN w0 w' := by
  obtain ⟨i, x, hi, hh⟩ := h.cur
  exact ⟨⟨i, x, hi, blk_grown hh hg h0⟩, blk_grown h.res hg h1, blk_grown h.box hg h2, h.bel.trans (grown_below hg hB hw)⟩
theorem CutSt.alloc (h : CutSt B b base A n c g0 g3 W H gr N cN f w0 w) (hB : B ≤ w.heap.size) (o : Obj) : CutSt B b base A n c g0 g3 W H gr N cN f w0 (w.alloc o) :=
  ⟨cur_alloc h.cur o, blk_alloc h.res o, blk_alloc h.box o, h.row.alloc o, h.bel.alloc hB o⟩
theorem CutSt.grown (h : CutSt B b base A n c g0 g3 W H gr N cN f w0 w) (hc : CurAt w' b A n c) (hg : w.grownBy w' (some b)) (h0 : g0 ≠ b) (h3 : g3 ≠ b) (hb : b < base) (hB : B ≤ b) (hw : B ≤ w.heap.size) : CutSt B b base A n c g0 g3 W H gr N cN f w0 w' :=
  ⟨hc, blk_grown h.res hg h0, blk_grown h.box hg h3, ownS_grown h.row hg hb, h.bel.trans (grown_below hg hB hw)⟩
theorem CutSt.set (h : CutSt B b base A n c g0 g3 W H gr N cN f w0 w) {g : Nat} (j : Nat) (h0 : b ≠ g) (h1 : g0 ≠ g) (h2 : g3 ≠ g) (h3 : gr ≠ g) (hB : B ≤ g) (x : Value) : CutSt B b base A n c g0 g3 W H gr N cN f w0 (w.setCell ⟨g, j, none⟩ x) :=
  ⟨cur_set h.cur h0 x, blk_set h.res h1 x, blk_set h.box h2 x, h.row.setOther (fun k hk => by simp [Value.ownBlock] at hk; show g ≠ k; omega), h.bel.setCell (p := ⟨g, j, none⟩) hB x⟩
end
set_option maxRecDepth 100000 in
set_option maxHeartbeats 16000000 in
theorem cut_drawn (b : Nat) (A : Option Addr) (n c : Nat) (zs : List Int) (B : Nat) (w : World) (hr : RowI .u8 w B A n c zs) (hB : B ≤ b) (hbw : b < w.heap.size) (hn : n ≤ 1048576) (hc : CurAt w b A n c) :
    Calls Try.prog 88 #[.pointer (some ⟨b, 0, none⟩)] w fun e w' => ∃ (W H : Int) (gr N cN : Nat) (f : Nat → Nat → Int), e = .returned (.agg #[.int .i64 W, .int .i64 H, .slice (some ⟨gr, 0, none⟩) N cN]) ∧ 0 ≤ W ∧ W ≤ 9 ∧ 0 ≤ H ∧ H ≤ 9 ∧ 1 ≤ N ∧ N ≤ 12 ∧
      (∀ j, j < N → PatchI (f j)) ∧ OwnS 5 105 w' w.heap.size (.slice (some ⟨gr, 0, none⟩) N cN) N f ∧ Below B w w' := by
  obtain ⟨g0, hg0⟩ : ∃ g0, g0 = w.heap.size := ⟨_, rfl⟩
  have G1 : (w.alloc (.cells #[.int .i64 0, .int .i64 0, .slice none 0 0] 70)).heap[g0]? = some (.cells #[.int .i64 0, .int .i64 0, .slice none 0 0] 70 (0, 0)) := by rw [hg0]; exact heap_alloc_new w _
  have hG := Lib.hid hg0
  have hgw : w.heap.size ≤ g0 := by omega
  have hgw2 : g0 ≤ w.heap.size := by omega
  have hgb : g0 ≠ b := by omega
  have k0 : Below B w (w.alloc (.cells #[.int .i64 0, .int .i64 0, .slice none 0 0] 70)) := (Below.refl _ _).alloc (by omega) _
  have hc0 := cur_alloc hc (.cells #[.int .i64 0, .int .i64 0, .slice none 0 0] 70)
  have z0 : g0 + 1 ≤ (w.alloc (.cells #[.int .i64 0, .int .i64 0, .slice none 0 0] 70)).heap.size := by simp; omega
  clear hg0
  go_enter Try.func88, Try.ntmps88
  go_wp2_with fail
  simp only [← hG.out]
  obtain ⟨w0, hw0⟩ : ∃ w0, w0 = w.alloc (.cells #[.int .i64 0, .int .i64 0, .slice none 0 0] 70) := ⟨_, rfl⟩
  rw [← hw0] at G1 hc0 k0 z0 ⊢
  clear hw0
  refine (below_any 8 b A n c zs B w0 (hr.keep fun p hp => k0.cell hp) hB (by omega) hn hc0 (by omega) (by omega)).mono ?_
  rintro e w1 ⟨v0, hv0, rfl, hc1, h1⟩
  have k1 := k0.trans (grown_below h1 hB (by omega))
  have G2 := blk_grown G1 h1 hgb
  have z1 := h1.size
  clear G1 h1 hc0 k0
  obtain ⟨W, hW⟩ : ∃ W : Nat, W = v0 + 2 := ⟨_, rfl⟩
  have t2 : (2 : Int) + (v0 : Int) = (W : Int) := by omega
  have t3 : IntKind.i64.wrap (2 + (v0 : Int)) = (W : Int) := by rw [IntWalk.i64_in _ (by omega)]; omega
  have W2 : 2 ≤ W := by omega
  have W9 : W ≤ 9 := by omega
  clear hW hv0
  go_wp2_with fail
  clear t2 t3
  refine (below_any 8 b A n c zs B w1 (hr.keep fun p hp => k1.cell hp) hB (by omega) hn hc1 (by omega) (by omega)).mono ?_
  rintro e w2 ⟨v1, hv1, rfl, hc2, h2⟩
  have k2 := k1.trans (grown_below h2 hB (by omega))
  have G3 := blk_grown G2 h2 hgb
  have z2 := h2.size
  clear G2 h2 hc1 k1
  obtain ⟨H, hH⟩ : ∃ H : Nat, H = v1 + 2 := ⟨_, rfl⟩
  have t2 : (2 : Int) + (v1 : Int) = (H : Int) := by omega
  have t3 : IntKind.i64.wrap (2 + (v1 : Int)) = (H : Int) := by rw [IntWalk.i64_in _ (by omega)]; omega
  have H2 : 2 ≤ H := by omega
  have H9 : H ≤ 9 := by omega
  clear hH hv1
  go_wp2_with fail
  clear t2 t3
  obtain ⟨g3, hg3⟩ : ∃ g3, g3 = w2.heap.size := ⟨_, rfl⟩
  have st3 : CutSt B b w.heap.size A n c g0 g3 W H (g3 + 1) 1 1 (fun _ => five 0 0 W H 0) w ((w2.alloc (.cells #[.int .i64 W, .int .i64 H, .slice (some ⟨g3 + 1, 0, none⟩) 1 1] 70)).alloc (.cells #[.int .i64 0, .int .i64 0, .int .i64 W, .int .i64 H, .int .i64 0] 105)) := by
    have hz : (w2.alloc (.cells #[.int .i64 W, .int .i64 H, .slice (some ⟨g3 + 1, 0, none⟩) 1 1] 70)).heap.size = g3 + 1 := by simp [hg3]
    refine ⟨cur_alloc (cur_alloc hc2 _) _, blk_alloc (blk_alloc G3 _) _, blk_alloc (by rw [hg3]; exact heap_alloc_new w2 _) _, ?_, (k2.alloc (by omega) _).alloc (by omega) _⟩
    have ho := World.ownsRow_lit (e := 105) (size := 5) (base := w.heap.size) (w2.alloc (.cells #[.int .i64 W, .int .i64 H, .slice (some ⟨g3 + 1, 0, none⟩) 1 1] 70)) #[.int .i64 0, .int .i64 0, .int .i64 W, .int .i64 H, .int .i64 0] 1 (by omega) (by unfold maxLen; omega) rfl
    rw [hz] at ho
    exact ho
  have z3 : g3 + 2 ≤ ((w2.alloc (.cells #[.int .i64 W, .int .i64 H, .slice (some ⟨g3 + 1, 0, none⟩) 1 1] 70)).alloc (.cells #[.int .i64 0, .int .i64 0, .int .i64 W, .int .i64 H, .int .i64 0] 105)).heap.size := by simp; omega
  have g3w : w.heap.size < g3 := by omega
  have g30 : g3 ≠ g0 := by omega
  have g3b : g3 ≠ b := by omega
  have hP3 := Lib.hid (show ∀ j, j < 1 → PatchI ((fun _ : Nat => five 0 0 W H 0) j) from fun j hj => by unfold PatchI; simp only [five]; omega)
  rw [← hg3]
  obtain ⟨w3, hw3⟩ : ∃ w3, w3 = (w2.alloc (.cells #[.int .i64 W, .int .i64 H, .slice (some ⟨g3 + 1, 0, none⟩) 1 1] 70)).alloc (.cells #[.int .i64 0, .int .i64 0, .int .i64 W, .int .i64 H, .int .i64 0] 105) := ⟨_, rfl⟩
  rw [← hw3] at st3 z3 ⊢
  clear hw3 hg3 G3 hc2 k2 z2 z1 z0
  refine (once_any 6 b A n c zs B w3 (hr.keep fun p hp => st3.bel.cell hp) hB (by omega) hn st3.cur (by omega) (by omega)).mono ?_
  rintro e w4 ⟨t, rfl, hc4, h4⟩
  have st4 := st3.grown hc4 h4 hgb g3b hbw hB (by omega)
  have z4 : g3 + 2 ≤ w4.heap.size := Nat.le_trans z3 h4.size
  clear st3 z3 hc4 h4
  go_upto_if 26 with fail
  go_cut [27] (fun _ wx => ∃ (W H : Int) (gr N cN : Nat) (f : Nat → Nat → Int), CutSt B b w.heap.size A n c g0 g3 W H gr N cN f w wx ∧ 0 ≤ W ∧ W ≤ 9 ∧ 0 ≤ H ∧ H ≤ 9 ∧ 1 ≤ N ∧ N ≤ 12 ∧ Hid (∀ j, j < N → PatchI (f j)) ∧ g3 + 2 ≤ wx.heap.size)
  case first =>
    cases t
    · go_wp2_with fail
      go_meet
      exact ⟨W, H, _, _, _, _, st4, by omega, by omega, by omega, by omega, by omega, by omega, hP3, z4⟩
    · have x0 := blk_cell st4.box 0
      have x1 := blk_cell st4.box 1
      have x2 := blk_cell st4.box 2
      have f0 := blk_frozen (j := 0) st4.box
      have f1 := blk_frozen (j := 1) st4.box
      have f2 := blk_frozen (j := 2) st4.box
      simp only [List.getElem?_toArray, List.getElem?_cons_zero, List.getElem?_cons_succ] at x0 x1 x2
      go_wp2_with fail
      refine (sample_any w4).mono ?_
      rintro e w5 ⟨gs, rfl, ho5, hb5⟩
      have bx5 := blk_below st4.box hb5 (by omega)
      have y0 := blk_cell bx5 0
      have y1 := blk_cell bx5 1
      have y2 := blk_cell bx5 2
      have e0 := blk_frozen (j := 0) bx5
      have e1 := blk_frozen (j := 1) bx5
      have e2 := blk_frozen (j := 2) bx5
      simp only [List.getElem?_toArray, List.getElem?_cons_zero, List.getElem?_cons_succ] at y0 y1 y2
      have q1 := heap_setCell_same w5 g3 0 _ _ (.int .i64 3) bx5
      have q2 := heap_setCell_same _ g3 1 _ _ (.int .i64 3) q1
      have q3 := heap_setCell_same _ g3 2 _ _ (.slice (some ⟨gs, 0, none⟩) 5 5) q2
      have hgs := ho5.ge
      have st6 : CutSt B b w.heap.size A n c g0 g3 3 3 gs 5 5 sampleF w (((w5.setCell ⟨g3, 0, none⟩ (.int .i64 3)).setCell ⟨g3, 1, none⟩ (.int .i64 3)).setCell ⟨g3, 2, none⟩ (.slice (some ⟨gs, 0, none⟩) 5 5)) := by
        have hne : ∀ (u : World) (j : Nat) (x : Value), OwnS 5 105 u w4.heap.size (.slice (some ⟨gs, 0, none⟩) 5 5) 5 sampleF → OwnS 5 105 (u.setCell ⟨g3, j, none⟩ x) w4.heap.size (.slice (some ⟨gs, 0, none⟩) 5 5) 5 sampleF := fun u j x h => h.setOther fun k hk => by simp [Value.ownBlock] at hk; show g3 ≠ k; omega
        refine ⟨cur_set (cur_set (cur_set (cur_below st4.cur hb5 (by omega)) (Ne.symm g3b) _) (Ne.symm g3b) _) (Ne.symm g3b) _, blk_set (blk_set (blk_set (blk_below st4.res hb5 (by omega)) (Ne.symm g30) _) (Ne.symm g30) _) (Ne.symm g30) _, by simpa using q3, (hne _ _ _ (hne _ _ _ (hne _ _ _ ho5))).base_ (by omega), ?_⟩
        exact (((st4.bel.trans (hb5.mono (by omega))).setCell (p := ⟨g3, 0, none⟩) (by show B ≤ g3; omega) _).setCell (p := ⟨g3, 1, none⟩) (by show B ≤ g3; omega) _).setCell (p := ⟨g3, 2, none⟩) (by show B ≤ g3; omega) _
      have z6 : g3 + 2 ≤ (((w5.setCell ⟨g3, 0, none⟩ (.int .i64 3)).setCell ⟨g3, 1, none⟩ (.int .i64 3)).setCell ⟨g3, 2, none⟩ (.slice (some ⟨gs, 0, none⟩) 5 5)).heap.size := by
        have := hb5.size
        simp only [World.setCell, Array.size_modify]
        omega
      clear q1 q2 q3 ho5 hb5 bx5 hgs
      go_wp2_with fail
      go_meet
      exact ⟨3, 3, _, _, _, _, st6, by omega, by omega, by omega, by omega, by omega, by omega, Lib.hid fun j _ => sampleF_ok j, z6⟩
  case rest =>
    obtain ⟨W, H, gr, N, cN, f, st, W0, W9, H0, H9, N1, N12, HP, z⟩ := hcut
    clear st4 z4 hP3
    go_wp2_with fail
    refine (below_any 8 b A n c zs B wc (hr.keep fun p hp => st.bel.cell hp) hB (by omega) hn st.cur (by omega) (by omega)).mono ?_
    rintro e w6 ⟨n8, hn8, rfl, hc6, h6⟩
    have st6 := st.grown hc6 h6 hgb g3b hbw hB (by omega)
    have z6 : g3 + 2 ≤ w6.heap.size := Nat.le_trans z h6.size
    clear st z hc6 h6
    go_wp2_with fail
    go_loopw [5, 6, 7, 8, 9, 10] (fun kv _ _ _ _ _ wr => ∃ (k gr N cN : Nat) (f : Nat → Nat → Int), k ≤ n8 ∧ kv = .int .i64 k ∧ CutSt B b w.heap.size A n c g0 g3 W H gr N cN f w wr ∧ 1 ≤ N ∧ N ≤ 12 ∧ Hid (∀ j, j < N → PatchI (f j)) ∧ g3 + 2 ≤ wr.heap.size) (fun kv _ _ _ _ _ _ => n8 - (intOf kv).toNat)
    case atStart => exact ⟨0, _, _, _, _, by omega, rfl, st6, N1, N12, HP, z6⟩
    case round =>
      clear st6 z6 HP N1 N12
      obtain ⟨k, gr, N, cN, f, hk, rfl, st, N1, N12, HP, z⟩ := hrel
      have b0 := blk_cell st.box 0
      have b1 := blk_cell st.box 1
      have b2 := blk_cell st.box 2
      simp only [List.getElem?_toArray, List.getElem?_cons_zero, List.getElem?_cons_succ] at b0 b1 b2
      by_cases hkn : k < n8 ∧ N < 12
      · obtain ⟨hkn, hN⟩ := hkn
        have d1 : decide ((k : Int) < (n8 : Int)) = true := decide_eq_true (by omega)
        have d2 : decide ((N : Int) < 12) = true := decide_eq_true (by omega)
        go_wp2_with fail
        refine (below_any N b A n c zs B wr (hr.keep fun p hp => st.bel.cell hp) hB (by omega) hn st.cur (by omega) (by omega)).mono ?_
        rintro e w7 ⟨i, hi, rfl, hc7, h7⟩
        have st7 := st.grown hc7 h7 hgb g3b hbw hB (by omega)
        have z7 : g3 + 2 ≤ w7.heap.size := Nat.le_trans z h7.size
        clear st z hc7 h7 b0 b1 b2
        have b2 := blk_cell st7.box 2
        simp only [List.getElem?_toArray, List.getElem?_cons_zero, List.getElem?_cons_succ] at b2
        have r0 := st7.row.cellAt (i := i) (j := 0) hi (by omega)
        have r1 := st7.row.cellAt (i := i) (j := 1) hi (by omega)
        have r2 := st7.row.cellAt (i := i) (j := 2) hi (by omega)
        have r3 := st7.row.cellAt (i := i) (j := 3) hi (by omega)
        have r4 := st7.row.cellAt (i := i) (j := 4) hi (by omega)
        rw [Nat.add_zero] at r0
        have HPi := Lib.hid (HP.out i hi)
        have i0 : (0 : Int) ≤ (i : Int) := by omega
        have i1 : (i : Int) < (N : Int) := by omega
        go_wp2_with fail
        obtain ⟨h0, h1, h2, h3, h4, h5, h6, h7⟩ := HPi.out
        have grw := st7.row.ge
        obtain ⟨X, hX⟩ : ∃ X, X = f i 0 := ⟨_, rfl⟩
        obtain ⟨Y, hY⟩ : ∃ Y, Y = f i 1 := ⟨_, rfl⟩
        obtain ⟨Wv, hWv⟩ : ∃ Wv, Wv = f i 2 := ⟨_, rfl⟩
        obtain ⟨Hv, hHv⟩ : ∃ Hv, Hv = f i 3 := ⟨_, rfl⟩
        obtain ⟨C, hC⟩ : ∃ C, C = f i 4 := ⟨_, rfl⟩
        rw [← hX] at h0 h4 ⊢
        rw [← hY] at h1 h5 ⊢
        rw [← hWv] at h2 h4 ⊢
        rw [← hHv] at h3 h5 ⊢
        rw [← hC] at h6 h7 ⊢
        clear hX hY hWv hHv hC HPi r0 r1 r2 r3 r4 b2
        have st8 := (st7.alloc (by omega) (.cells #[.int .i64 X, .int .i64 Y, .int .i64 Wv, .int .i64 Hv, .int .i64 C] 105)).alloc (by simp; omega) (.cells #[.int .i64 X, .int .i64 Y, .int .i64 Wv, .int .i64 Hv, .int .i64 C] 105)
        obtain ⟨g7, hg7⟩ : ∃ g7, g7 = w7.heap.size := ⟨_, rfl⟩
        have P8 : ((w7.alloc (.cells #[.int .i64 X, .int .i64 Y, .int .i64 Wv, .int .i64 Hv, .int .i64 C] 105)).alloc (.cells #[.int .i64 X, .int .i64 Y, .int .i64 Wv, .int .i64 Hv, .int .i64 C] 105)).heap[g7]? = some (.cells #[.int .i64 X, .int .i64 Y, .int .i64 Wv, .int .i64 Hv, .int .i64 C] 105 (0, 0)) := blk_alloc (by rw [hg7]; exact heap_alloc_new w7 _) _
        have hz7 : (w7.alloc (.cells #[.int .i64 X, .int .i64 Y, .int .i64 Wv, .int .i64 Hv, .int .i64 C] 105)).heap.size = g7 + 1 := by simp [hg7]
        have Q8 : ((w7.alloc (.cells #[.int .i64 X, .int .i64 Y, .int .i64 Wv, .int .i64 Hv, .int .i64 C] 105)).alloc (.cells #[.int .i64 X, .int .i64 Y, .int .i64 Wv, .int .i64 Hv, .int .i64 C] 105)).heap[g7 + 1]? = some (.cells #[.int .i64 X, .int .i64 Y, .int .i64 Wv, .int .i64 Hv, .int .i64 C] 105 (0, 0)) := by rw [← hz7]; exact heap_alloc_new _ _
        have z8 : g7 + 2 ≤ ((w7.alloc (.cells #[.int .i64 X, .int .i64 Y, .int .i64 Wv, .int .i64 Hv, .int .i64 C] 105)).alloc (.cells #[.int .i64 X, .int .i64 Y, .int .i64 Wv, .int .i64 Hv, .int .i64 C] 105)).heap.size := by simp; omega
        rw [← hg7]
        obtain ⟨g8, hg8⟩ : ∃ g8, g8 = g7 + 1 := ⟨_, rfl⟩
        rw [← hg8] at Q8 ⊢
        obtain ⟨w8, hw8⟩ : ∃ w8, w8 = (w7.alloc (.cells #[.int .i64 X, .int .i64 Y, .int .i64 Wv, .int .i64 Hv, .int .i64 C] 105)).alloc (.cells #[.int .i64 X, .int .i64 Y, .int .i64 Wv, .int .i64 Hv, .int .i64 C] 105) := ⟨_, rfl⟩
        rw [← hw8] at st8 P8 Q8 z8 ⊢
        clear hw8 hz7
        have g7b : g7 ≠ b := by omega
        have g8b : g8 ≠ b := by omega
        have g70 : g7 ≠ g0 := by omega
        have g80 : g8 ≠ g0 := by omega
        have g73 : g7 ≠ g3 := by omega
        have g83 : g8 ≠ g3 := by omega
        have g78 : g7 ≠ g8 := by omega
        have g87 : g8 ≠ g7 := by omega
        have gr7 : gr ≠ g7 := by omega
        have gr8 : gr ≠ g8 := by omega
        have gr3 := st7.ne3
        have gr0 := st7.ne0
        have grb : gr ≠ b := by omega
        have g7r : g7 ≠ gr := by omega
        have g8r : g8 ≠ gr := by omega
        have g3r : g3 ≠ gr := by omega
        have g38 : g3 ≠ g8 := by omega
        have g37 : g3 ≠ g7 := by omega
        have g7w : w.heap.size ≤ g7 := by omega
        have g8w : w.heap.size ≤ g8 := by omega
        have g7z : g3 + 2 ≤ g7 := by omega
        clear hg7 hg8 st7 z7
        refine (once_any 2 b A n c zs B w8 (hr.keep fun p hp => st8.bel.cell hp) hB (by omega) hn st8.cur (by omega) (by omega)).mono ?_
        rintro e w9 ⟨t, rfl, hc9, h9⟩
        have st9 := st8.grown hc9 h9 hgb g3b hbw hB (by omega)
        have P9 := blk_grown P8 h9 g7b
        have Q9 := blk_grown Q8 h9 g8b
        have z9 : g7 + 2 ≤ w9.heap.size := Nat.le_trans z8 h9.size
        clear P8 Q8 h9 hc9 st8 z8
        have p2 := blk_cell P9 2
        have p3 := blk_cell P9 3
        simp only [List.getElem?_toArray, List.getElem?_cons_zero, List.getElem?_cons_succ] at p2 p3
        by_cases hA : t = true ∧ 1 < Wv
        · obtain ⟨rfl, hA⟩ := hA
          obtain ⟨m, hm⟩ : ∃ m : Nat, Wv = (m : Int) + 1 := ⟨(Wv - 1).toNat, by omega⟩
          subst hm
          have dA : decide (1 < (m : Int) + 1) = true := decide_eq_true (by omega)
          go_wp2_with fail
          refine (below_any m b A n c zs B w9 (hr.keep fun p hp => st9.bel.cell hp) hB (by omega) hn st9.cur (by omega) (by omega)).mono ?_
          rintro e w10 ⟨q, hq, rfl, hc10, h10⟩
          have st10 := st9.grown hc10 h10 hgb g3b hbw hB (by omega)
          have P10 := blk_grown P9 h10 g7b
          have Q10 := blk_grown Q9 h10 g8b
          have z10 := h10.size
          clear P9 Q9 h10 hc10 st9 p2 p3
          obtain ⟨v, hv⟩ : ∃ v : Nat, v = q + 1 := ⟨_, rfl⟩
          have t2 : (1 : Int) + (q : Int) = (v : Int) := by omega
          have t3 : IntKind.i64.wrap (1 + (q : Int)) = (v : Int) := by rw [IntWalk.i64_in _ (by omega)]; omega
          have v1 : 1 ≤ v := by omega
          have vm : v ≤ m := by omega
          clear hv
          have pa := blk_cell P10 0
          have ps := blk_cell P10 2
          have fps := blk_frozen (j := 2) P10
          have qa := blk_cell Q10 0
          have qs := blk_cell Q10 2
          have fqa := blk_frozen (j := 0) Q10
          have fqs := blk_frozen (j := 2) Q10
          simp only [List.getElem?_toArray, List.getElem?_cons_zero, List.getElem?_cons_succ] at pa ps qa qs
          have st11 := ((st10.set 0 (Ne.symm g8b) (Ne.symm g80) (Ne.symm g83) gr8 (by omega) (.int .i64 (X + (v : Int)))).set 2 (Ne.symm g8b) (Ne.symm g80) (Ne.symm g83) gr8 (by omega) (.int .i64 ((m : Int) + 1 - (v : Int)))).set 2 (Ne.symm g7b) (Ne.symm g70) (Ne.symm g73) gr7 (by omega) (.int .i64 (v : Int))
          have Q11a := heap_setCell_same _ g8 2 _ _ (.int .i64 ((m : Int) + 1 - (v : Int))) (heap_setCell_same _ g8 0 _ _ (.int .i64 (X + (v : Int))) Q10)
          have Q11 := blk_set (p := ⟨g7, 2, none⟩) Q11a g87 (.int .i64 (v : Int))
          have P11 := heap_setCell_same _ g7 2 _ _ (.int .i64 (v : Int)) (blk_set (p := ⟨g8, 2, none⟩) (blk_set (p := ⟨g8, 0, none⟩) P10 g78 (.int .i64 (X + (v : Int)))) g78 (.int .i64 ((m : Int) + 1 - (v : Int))))
          obtain ⟨w11, hw11⟩ : ∃ w11, w11 = ((w10.setCell ⟨g8, 0, none⟩ (.int .i64 (X + (v : Int)))).setCell ⟨g8, 2, none⟩ (.int .i64 ((m : Int) + 1 - (v : Int)))).setCell ⟨g7, 2, none⟩ (.int .i64 (v : Int)) := ⟨_, rfl⟩
          have z11 : w10.heap.size ≤ w11.heap.size := by rw [hw11]; simp only [World.setCell, Array.size_modify]; exact Nat.le_refl _
          rw [← hw11] at st11 Q11 P11
          have Q12 : w11.heap[g8]? = some (.cells #[.int .i64 (X + (v : Int)), .int .i64 Y, .int .i64 ((m : Int) + 1 - (v : Int)), .int .i64 Hv, .int .i64 C] 105 (0, 0)) := by simpa using Q11
          have P12 : w11.heap[g7]? = some (.cells #[.int .i64 X, .int .i64 Y, .int .i64 (v : Int), .int .i64 Hv, .int .i64 C] 105 (0, 0)) := by simpa using P11
          have HW := Lib.hid hw11
          clear hw11 Q11a Q11 P11 P10 Q10 st10
          go_wp2_with fail
          simp only [← HW.out]
          clear HW t2 t3 pa ps fps qa qs fqa fqs dA
          refine (below_any 5 b A n c zs B w11 (hr.keep fun p hp => st11.bel.cell hp) hB (by omega) hn st11.cur (by omega) (by omega)).mono ?_
          rintro e w12 ⟨col, hcol, rfl, hc12, h12⟩
          have st12 := st11.grown hc12 h12 hgb g3b hbw hB (by omega)
          have P13 := blk_grown P12 h12 g7b
          have Q13 := blk_grown Q12 h12 g8b
          have z12 := h12.size
          clear P12 Q12 h12 hc12 st11
          have b2 := blk_cell st12.box 2
          have fb2 := blk_frozen (j := 2) st12.box
          have pc0 := blk_cell P13 0
          have pc1 := blk_cell P13 1
          have pc2 := blk_cell P13 2
          have pc3 := blk_cell P13 3
          have pc4 := blk_cell P13 4
          have qc0 := blk_cell Q13 0
          have qc1 := blk_cell Q13 1
          have qc2 := blk_cell Q13 2
          have qc3 := blk_cell Q13 3
          have qc4 := blk_cell Q13 4
          have fq4 := blk_frozen (j := 4) Q13
          simp only [List.getElem?_toArray, List.getElem?_cons_zero, List.getElem?_cons_succ] at b2 pc0 pc1 pc2 pc3 pc4 qc0 qc1 qc2 qc3 qc4
          have r0 := st12.row.cellAt (i := i) (j := 0) hi (by omega)
          have r1 := st12.row.cellAt (i := i) (j := 1) hi (by omega)
          have r2 := st12.row.cellAt (i := i) (j := 2) hi (by omega)
          have r3 := st12.row.cellAt (i := i) (j := 3) hi (by omega)
          have r4 := st12.row.cellAt (i := i) (j := 4) hi (by omega)
          rw [Nat.add_zero] at r0
          have fr0 := st12.row.frozenAt (i * 5)
          have fr1 := st12.row.frozenAt (i * 5 + 1)
          have fr2 := st12.row.frozenAt (i * 5 + 2)
          have fr3 := st12.row.frozenAt (i * 5 + 3)
          have fr4 := st12.row.frozenAt (i * 5 + 4)
          have fr := (((((((st12.fr.set (p := ⟨g8, 4, none⟩) (Ne.symm g8b) (Ne.symm g80) (Ne.symm g83) (by show B ≤ g8; omega) (.int .i64 (col : Int))).set (p := ⟨gr, i * 5, none⟩) (Ne.symm grb) (Ne.symm gr0) (Ne.symm gr3) (by show B ≤ gr; omega) (.int .i64 X)).set (p := ⟨gr, i * 5 + 1, none⟩) (Ne.symm grb) (Ne.symm gr0) (Ne.symm gr3) (by show B ≤ gr; omega) (.int .i64 Y)).set (p := ⟨gr, i * 5 + 2, none⟩) (Ne.symm grb) (Ne.symm gr0) (Ne.symm gr3) (by show B ≤ gr; omega) (.int .i64 (v : Int))).set (p := ⟨gr, i * 5 + 3, none⟩) (Ne.symm grb) (Ne.symm gr0) (Ne.symm gr3) (by show B ≤ gr; omega) (.int .i64 Hv)).set (p := ⟨gr, i * 5 + 4, none⟩) (Ne.symm grb) (Ne.symm gr0) (Ne.symm gr3) (by show B ≤ gr; omega) (.int .i64 C)))
          have ro1 := (((((st12.row.setOther (p := ⟨g8, 4, none⟩) (x := .int .i64 (col : Int)) (fun k hk => by simp [Value.ownBlock] at hk; show g8 ≠ k; omega)).stored (i := i) (j := 0) (by omega) X).stored (i := i) (j := 1) (by omega) Y).stored (i := i) (j := 2) (by omega) (v : Int)).stored (i := i) (j := 3) (by omega) Hv).stored (i := i) (j := 4) (by omega) C
          have ro := ro1.congr (f' := updS f i (five X Y (v : Int) Hv C)) (by decide) (fun x hx y hy => by
            unfold updS upd2 five
            rcases (by omega : y = 0 ∨ y = 1 ∨ y = 2 ∨ y = 3 ∨ y = 4) with rfl | rfl | rfl | rfl | rfl <;> by_cases e : x = i <;> simp [e])
          obtain ⟨w13, hw13⟩ : ∃ w13, w13 = ((((((w12.setCell ⟨g8, 4, none⟩ (.int .i64 (col : Int))).setCell ⟨gr, i * 5, none⟩ (.int .i64 X)).setCell ⟨gr, i * 5 + 1, none⟩ (.int .i64 Y)).setCell ⟨gr, i * 5 + 2, none⟩ (.int .i64 (v : Int))).setCell ⟨gr, i * 5 + 3, none⟩ (.int .i64 Hv)).setCell ⟨gr, i * 5 + 4, none⟩ (.int .i64 C)) := ⟨_, rfl⟩
          have z13 : w13.heap.size = w12.heap.size := by rw [hw13]; simp only [World.setCell, Array.size_modify]
          have fr' : CutFr B b A n c g0 g3 W H gr N cN w w13 := by rw [hw13]; exact fr
          have ro' : OwnS 5 105 w13 w.heap.size (.slice (some ⟨gr, 0, none⟩) N cN) N (updS f i (five X Y (v : Int) Hv C)) := by rw [hw13]; exact ro
          have Q14 : w13.heap[g8]? = some (.cells #[.int .i64 (X + (v : Int)), .int .i64 Y, .int .i64 ((m : Int) + 1 - (v : Int)), .int .i64 Hv, .int .i64 (col : Int)] 105 (0, 0)) := by
            have h := blk_set (p := ⟨gr, i * 5 + 4, none⟩) (blk_set (p := ⟨gr, i * 5 + 3, none⟩) (blk_set (p := ⟨gr, i * 5 + 2, none⟩) (blk_set (p := ⟨gr, i * 5 + 1, none⟩) (blk_set (p := ⟨gr, i * 5, none⟩) (heap_setCell_same w12 g8 4 _ _ (.int .i64 (col : Int)) Q13) g8r (.int .i64 X)) g8r (.int .i64 Y)) g8r (.int .i64 (v : Int))) g8r (.int .i64 Hv)) g8r (.int .i64 C)
            rw [hw13]
            simpa using h
          have HW := Lib.hid hw13
          have HZ := Lib.hid z13
          have z13' : w12.heap.size ≤ w13.heap.size := by omega
          clear z13 hw13 fr ro1 ro
          have HPn := Lib.hid (show ∀ j, j < N + 1 → PatchI (updS (updS f i (five X Y (v : Int) Hv C)) N (five (X + (v : Int)) Y ((m : Int) + 1 - (v : Int)) Hv (col : Int)) j) from fun j hj => by
            rcases (by omega : j = N ∨ j < N) with rfl | h1
            · rw [updS_eq]; unfold PatchI; simp only [five]; omega
            · rw [updS_lt h1]
              by_cases h2 : j = i
              · subst h2; rw [updS_eq]; unfold PatchI; simp only [five]; omega
              · unfold updS; rw [if_neg h2]; exact HP.out j h1)
          go_upto_region 24 with fail
          simp only [← HW.out]
          clear HW pc0 pc1 pc2 pc3 pc4 qc0 qc1 qc2 qc3 qc4 fq4 r0 r1 r2 r3 r4 fr0 fr1 fr2 fr3 fr4 b2 fb2
          have b2 := blk_cell fr'.box 2
          have qc0 := blk_cell Q14 0
          have qc1 := blk_cell Q14 1
          have qc2 := blk_cell Q14 2
          have qc3 := blk_cell Q14 3
          have qc4 := blk_cell Q14 4
          simp only [List.getElem?_toArray, List.getElem?_cons_zero, List.getElem?_cons_succ] at b2 qc0 qc1 qc2 qc3 qc4
          go_wp2_with (at_builtin; refine appS_grown Try.underlying68 info_patchD rfl (by decide) (by decide) rfl _ _ rfl w.heap.size N _ (updS f i (five X Y (v : Int) Hv C)) (five (X + (v : Int)) Y ((m : Int) + 1 - (v : Int)) Hv (col : Int)) w13.heap.size rfl (ro'.alloc _) rfl #[.int .i64 (X + (v : Int)), .int .i64 Y, .int .i64 ((m : Int) + 1 - (v : Int)), .int .i64 Hv, .int .i64 (col : Int)] rfl (by exact heap_alloc_new w13 _) (by omega) (by simp; omega) ?_; intro A14 c14 w14 ho14 hg14; have fr14 := (fr'.alloc (by omega) (.cells #[.int .i64 (X + (v : Int)), .int .i64 Y, .int .i64 ((m : Int) + 1 - (v : Int)), .int .i64 Hv, .int .i64 (col : Int)] 105)).grownRow (g := gr) hg14 (Ne.symm grb) (Ne.symm gr0) (Ne.symm gr3) (by omega) (by simp; omega); have x2 : w14.cell? ⟨g3, 2, none⟩ = some (.slice (some ⟨gr, 0, none⟩) N cN) := blk_cell fr14.box 2; have fx2 := blk_frozen (j := 2) fr14.box)
          obtain ⟨gn, rfl⟩ := ho14.some_ (by omega)
          have hgn := ho14.ge
          have z14 : w13.heap.size ≤ w14.heap.size := by have h := hg14.size; simp at h; omega
          have gn3 := row_box_ne ho14 fr14.box (by decide)
          have bx := heap_setCell_same w14 g3 2 _ _ (.slice (some ⟨gn, 0, none⟩) (N + 1) c14) fr14.box
          have st15 : CutSt B b w.heap.size A n c g0 g3 W H gn (N + 1) c14 (updS (updS f i (five X Y (v : Int) Hv C)) N (five (X + (v : Int)) Y ((m : Int) + 1 - (v : Int)) Hv (col : Int))) w (w14.setCell ⟨g3, 2, none⟩ (.slice (some ⟨gn, 0, none⟩) (N + 1) c14)) :=
            ⟨cur_set fr14.cur (Ne.symm g3b) _, blk_set fr14.res (Ne.symm g30) _, by simpa using bx, ho14.setOther (fun k hk => by simp [Value.ownBlock] at hk; show g3 ≠ k; omega), fr14.bel.setCell (p := ⟨g3, 2, none⟩) (by show B ≤ g3; omega) _⟩
          have z15 : g3 + 2 ≤ (w14.setCell ⟨g3, 2, none⟩ (.slice (some ⟨gn, 0, none⟩) (N + 1) c14)).heap.size := by simp only [World.setCell, Array.size_modify]; omega
          clear bx fr14 ho14 hg14 fr' ro' st12 HZ P13 Q13 Q14 qc0 qc1 qc2 qc3 qc4 b2
          go_roundw
          case rel => exact ⟨k + 1, gn, N + 1, c14, _, by omega, by go_num, st15, by omega, by omega, HPn, z15⟩
          case measure => simp [intOf]; omega
        · have hB1 : t = false ∨ (t = true ∧ Wv ≤ 1) := by
            cases t
            · exact .inl rfl
            · exact .inr ⟨rfl, by have : ¬ 1 < Wv := fun h => hA ⟨rfl, h⟩; omega⟩
          clear hA
          by_cases hH : 1 < Hv
          · rcases hB1 with rfl | ⟨rfl, hW1⟩
            · obtain ⟨m, hm⟩ : ∃ m : Nat, Hv = (m : Int) + 1 := ⟨(Hv - 1).toNat, by omega⟩
              subst hm
              have dA : decide (1 < (m : Int) + 1) = true := decide_eq_true (by omega)
              go_wp2_with fail
              refine (below_any m b A n c zs B w9 (hr.keep fun p hp => st9.bel.cell hp) hB (by omega) hn st9.cur (by omega) (by omega)).mono ?_
              rintro e w10 ⟨q, hq, rfl, hc10, h10⟩
              have st10 := st9.grown hc10 h10 hgb g3b hbw hB (by omega)
              have P10 := blk_grown P9 h10 g7b
              have Q10 := blk_grown Q9 h10 g8b
              have z10 := h10.size
              clear P9 Q9 h10 hc10 st9 p2 p3
              obtain ⟨v, hv⟩ : ∃ v : Nat, v = q + 1 := ⟨_, rfl⟩
              have t2 : (1 : Int) + (q : Int) = (v : Int) := by omega
              have t3 : IntKind.i64.wrap (1 + (q : Int)) = (v : Int) := by rw [IntWalk.i64_in _ (by omega)]; omega
              have v1 : 1 ≤ v := by omega
              have vm : v ≤ m := by omega
              clear hv
              have pa := blk_cell P10 1
              have ps := blk_cell P10 3
              have fps := blk_frozen (j := 3) P10
              have qa := blk_cell Q10 1
              have qs := blk_cell Q10 3
              have fqa := blk_frozen (j := 1) Q10
              have fqs := blk_frozen (j := 3) Q10
              simp only [List.getElem?_toArray, List.getElem?_cons_zero, List.getElem?_cons_succ] at pa ps qa qs
              have st11 := ((st10.set 1 (Ne.symm g8b) (Ne.symm g80) (Ne.symm g83) gr8 (by omega) (.int .i64 (Y + (v : Int)))).set 3 (Ne.symm g8b) (Ne.symm g80) (Ne.symm g83) gr8 (by omega) (.int .i64 ((m : Int) + 1 - (v : Int)))).set 3 (Ne.symm g7b) (Ne.symm g70) (Ne.symm g73) gr7 (by omega) (.int .i64 (v : Int))
              have Q11a := heap_setCell_same _ g8 3 _ _ (.int .i64 ((m : Int) + 1 - (v : Int))) (heap_setCell_same _ g8 1 _ _ (.int .i64 (Y + (v : Int))) Q10)
              have Q11 := blk_set (p := ⟨g7, 3, none⟩) Q11a g87 (.int .i64 (v : Int))
              have P11 := heap_setCell_same _ g7 3 _ _ (.int .i64 (v : Int)) (blk_set (p := ⟨g8, 3, none⟩) (blk_set (p := ⟨g8, 1, none⟩) P10 g78 (.int .i64 (Y + (v : Int)))) g78 (.int .i64 ((m : Int) + 1 - (v : Int))))
              obtain ⟨w11, hw11⟩ : ∃ w11, w11 = ((w10.setCell ⟨g8, 1, none⟩ (.int .i64 (Y + (v : Int)))).setCell ⟨g8, 3, none⟩ (.int .i64 ((m : Int) + 1 - (v : Int)))).setCell ⟨g7, 3, none⟩ (.int .i64 (v : Int)) := ⟨_, rfl⟩
              have z11 : w10.heap.size ≤ w11.heap.size := by rw [hw11]; simp only [World.setCell, Array.size_modify]; exact Nat.le_refl _
              rw [← hw11] at st11 Q11 P11
              have Q12 : w11.heap[g8]? = some (.cells #[.int .i64 X, .int .i64 (Y + (v : Int)), .int .i64 Wv, .int .i64 ((m : Int) + 1 - (v : Int)), .int .i64 C] 105 (0, 0)) := by simpa using Q11
              have P12 : w11.heap[g7]? = some (.cells #[.int .i64 X, .int .i64 Y, .int .i64 Wv, .int .i64 (v : Int), .int .i64 C] 105 (0, 0)) := by simpa using P11
              have HW := Lib.hid hw11
              clear hw11 Q11a Q11 P11 P10 Q10 st10
              go_wp2_with fail
              simp only [← HW.out]
              clear HW t2 t3 pa ps fps qa qs fqa fqs dA
              refine (below_any 5 b A n c zs B w11 (hr.keep fun p hp => st11.bel.cell hp) hB (by omega) hn st11.cur (by omega) (by omega)).mono ?_
              rintro e w12 ⟨col, hcol, rfl, hc12, h12⟩
              have st12 := st11.grown hc12 h12 hgb g3b hbw hB (by omega)
              have P13 := blk_grown P12 h12 g7b
              have Q13 := blk_grown Q12 h12 g8b
              have z12 := h12.size
              clear P12 Q12 h12 hc12 st11
              have b2 := blk_cell st12.box 2
              have fb2 := blk_frozen (j := 2) st12.box
              have pc0 := blk_cell P13 0
              have pc1 := blk_cell P13 1
              have pc2 := blk_cell P13 2
              have pc3 := blk_cell P13 3
              have pc4 := blk_cell P13 4
              have qc0 := blk_cell Q13 0
              have qc1 := blk_cell Q13 1
              have qc2 := blk_cell Q13 2
              have qc3 := blk_cell Q13 3
              have qc4 := blk_cell Q13 4
              have fq4 := blk_frozen (j := 4) Q13
              simp only [List.getElem?_toArray, List.getElem?_cons_zero, List.getElem?_cons_succ] at b2 pc0 pc1 pc2 pc3 pc4 qc0 qc1 qc2 qc3 qc4
              have r0 := st12.row.cellAt (i := i) (j := 0) hi (by omega)
              have r1 := st12.row.cellAt (i := i) (j := 1) hi (by omega)
              have r2 := st12.row.cellAt (i := i) (j := 2) hi (by omega)
              have r3 := st12.row.cellAt (i := i) (j := 3) hi (by omega)
              have r4 := st12.row.cellAt (i := i) (j := 4) hi (by omega)
              rw [Nat.add_zero] at r0
              have fr0 := st12.row.frozenAt (i * 5)
              have fr1 := st12.row.frozenAt (i * 5 + 1)
              have fr2 := st12.row.frozenAt (i * 5 + 2)
              have fr3 := st12.row.frozenAt (i * 5 + 3)
              have fr4 := st12.row.frozenAt (i * 5 + 4)
              have fr := (((((((st12.fr.set (p := ⟨g8, 4, none⟩) (Ne.symm g8b) (Ne.symm g80) (Ne.symm g83) (by show B ≤ g8; omega) (.int .i64 (col : Int))).set (p := ⟨gr, i * 5, none⟩) (Ne.symm grb) (Ne.symm gr0) (Ne.symm gr3) (by show B ≤ gr; omega) (.int .i64 X)).set (p := ⟨gr, i * 5 + 1, none⟩) (Ne.symm grb) (Ne.symm gr0) (Ne.symm gr3) (by show B ≤ gr; omega) (.int .i64 Y)).set (p := ⟨gr, i * 5 + 2, none⟩) (Ne.symm grb) (Ne.symm gr0) (Ne.symm gr3) (by show B ≤ gr; omega) (.int .i64 Wv)).set (p := ⟨gr, i * 5 + 3, none⟩) (Ne.symm grb) (Ne.symm gr0) (Ne.symm gr3) (by show B ≤ gr; omega) (.int .i64 (v : Int))).set (p := ⟨gr, i * 5 + 4, none⟩) (Ne.symm grb) (Ne.symm gr0) (Ne.symm gr3) (by show B ≤ gr; omega) (.int .i64 C)))
              have ro1 := (((((st12.row.setOther (p := ⟨g8, 4, none⟩) (x := .int .i64 (col : Int)) (fun k hk => by simp [Value.ownBlock] at hk; show g8 ≠ k; omega)).stored (i := i) (j := 0) (by omega) X).stored (i := i) (j := 1) (by omega) Y).stored (i := i) (j := 2) (by omega) Wv).stored (i := i) (j := 3) (by omega) (v : Int)).stored (i := i) (j := 4) (by omega) C
              have ro := ro1.congr (f' := updS f i (five X Y Wv (v : Int) C)) (by decide) (fun x hx y hy => by
                unfold updS upd2 five
                rcases (by omega : y = 0 ∨ y = 1 ∨ y = 2 ∨ y = 3 ∨ y = 4) with rfl | rfl | rfl | rfl | rfl <;> by_cases e : x = i <;> simp [e])
              obtain ⟨w13, hw13⟩ : ∃ w13, w13 = ((((((w12.setCell ⟨g8, 4, none⟩ (.int .i64 (col : Int))).setCell ⟨gr, i * 5, none⟩ (.int .i64 X)).setCell ⟨gr, i * 5 + 1, none⟩ (.int .i64 Y)).setCell ⟨gr, i * 5 + 2, none⟩ (.int .i64 Wv)).setCell ⟨gr, i * 5 + 3, none⟩ (.int .i64 (v : Int))).setCell ⟨gr, i * 5 + 4, none⟩ (.int .i64 C)) := ⟨_, rfl⟩
              have z13 : w13.heap.size = w12.heap.size := by rw [hw13]; simp only [World.setCell, Array.size_modify]
              have fr' : CutFr B b A n c g0 g3 W H gr N cN w w13 := by rw [hw13]; exact fr
              have ro' : OwnS 5 105 w13 w.heap.size (.slice (some ⟨gr, 0, none⟩) N cN) N (updS f i (five X Y Wv (v : Int) C)) := by rw [hw13]; exact ro
              have Q14 : w13.heap[g8]? = some (.cells #[.int .i64 X, .int .i64 (Y + (v : Int)), .int .i64 Wv, .int .i64 ((m : Int) + 1 - (v : Int)), .int .i64 (col : Int)] 105 (0, 0)) := by
                have h := blk_set (p := ⟨gr, i * 5 + 4, none⟩) (blk_set (p := ⟨gr, i * 5 + 3, none⟩) (blk_set (p := ⟨gr, i * 5 + 2, none⟩) (blk_set (p := ⟨gr, i * 5 + 1, none⟩) (blk_set (p := ⟨gr, i * 5, none⟩) (heap_setCell_same w12 g8 4 _ _ (.int .i64 (col : Int)) Q13) g8r (.int .i64 X)) g8r (.int .i64 Y)) g8r (.int .i64 Wv)) g8r (.int .i64 (v : Int))) g8r (.int .i64 C)
                rw [hw13]
                simpa using h
              have HW := Lib.hid hw13
              have HZ := Lib.hid z13
              have z13' : w12.heap.size ≤ w13.heap.size := by omega
              clear z13 hw13 fr ro1 ro
              have HPn := Lib.hid (show ∀ j, j < N + 1 → PatchI (updS (updS f i (five X Y Wv (v : Int) C)) N (five X (Y + (v : Int)) Wv ((m : Int) + 1 - (v : Int)) (col : Int)) j) from fun j hj => by
                rcases (by omega : j = N ∨ j < N) with rfl | h1
                · rw [updS_eq]; unfold PatchI; simp only [five]; omega
                · rw [updS_lt h1]
                  by_cases h2 : j = i
                  · subst h2; rw [updS_eq]; unfold PatchI; simp only [five]; omega
                  · unfold updS; rw [if_neg h2]; exact HP.out j h1)
              go_upto_region 24 with fail
              simp only [← HW.out]
              clear HW pc0 pc1 pc2 pc3 pc4 qc0 qc1 qc2 qc3 qc4 fq4 r0 r1 r2 r3 r4 fr0 fr1 fr2 fr3 fr4 b2 fb2
              have b2 := blk_cell fr'.box 2
              have qc0 := blk_cell Q14 0
              have qc1 := blk_cell Q14 1
              have qc2 := blk_cell Q14 2
              have qc3 := blk_cell Q14 3
              have qc4 := blk_cell Q14 4
              simp only [List.getElem?_toArray, List.getElem?_cons_zero, List.getElem?_cons_succ] at b2 qc0 qc1 qc2 qc3 qc4
              go_wp2_with (at_builtin; refine appS_grown Try.underlying68 info_patchD rfl (by decide) (by decide) rfl _ _ rfl w.heap.size N _ (updS f i (five X Y Wv (v : Int) C)) (five X (Y + (v : Int)) Wv ((m : Int) + 1 - (v : Int)) (col : Int)) w13.heap.size rfl (ro'.alloc _) rfl #[.int .i64 X, .int .i64 (Y + (v : Int)), .int .i64 Wv, .int .i64 ((m : Int) + 1 - (v : Int)), .int .i64 (col : Int)] rfl (by exact heap_alloc_new w13 _) (by omega) (by simp; omega) ?_; intro A14 c14 w14 ho14 hg14; have fr14 := (fr'.alloc (by omega) (.cells #[.int .i64 X, .int .i64 (Y + (v : Int)), .int .i64 Wv, .int .i64 ((m : Int) + 1 - (v : Int)), .int .i64 (col : Int)] 105)).grownRow (g := gr) hg14 (Ne.symm grb) (Ne.symm gr0) (Ne.symm gr3) (by omega) (by simp; omega); have x2 : w14.cell? ⟨g3, 2, none⟩ = some (.slice (some ⟨gr, 0, none⟩) N cN) := blk_cell fr14.box 2; have fx2 := blk_frozen (j := 2) fr14.box)
              obtain ⟨gn, rfl⟩ := ho14.some_ (by omega)
              have hgn := ho14.ge
              have z14 : w13.heap.size ≤ w14.heap.size := by have h := hg14.size; simp at h; omega
              have gn3 := row_box_ne ho14 fr14.box (by decide)
              have bx := heap_setCell_same w14 g3 2 _ _ (.slice (some ⟨gn, 0, none⟩) (N + 1) c14) fr14.box
              have st15 : CutSt B b w.heap.size A n c g0 g3 W H gn (N + 1) c14 (updS (updS f i (five X Y Wv (v : Int) C)) N (five X (Y + (v : Int)) Wv ((m : Int) + 1 - (v : Int)) (col : Int))) w (w14.setCell ⟨g3, 2, none⟩ (.slice (some ⟨gn, 0, none⟩) (N + 1) c14)) :=
                ⟨cur_set fr14.cur (Ne.symm g3b) _, blk_set fr14.res (Ne.symm g30) _, by simpa using bx, ho14.setOther (fun k hk => by simp [Value.ownBlock] at hk; show g3 ≠ k; omega), fr14.bel.setCell (p := ⟨g3, 2, none⟩) (by show B ≤ g3; omega) _⟩
              have z15 : g3 + 2 ≤ (w14.setCell ⟨g3, 2, none⟩ (.slice (some ⟨gn, 0, none⟩) (N + 1) c14)).heap.size := by simp only [World.setCell, Array.size_modify]; omega
              clear bx fr14 ho14 hg14 fr' ro' st12 HZ P13 Q13 Q14 qc0 qc1 qc2 qc3 qc4 b2
              go_roundw
              case rel => exact ⟨k + 1, gn, N + 1, c14, _, by omega, by go_num, st15, by omega, by omega, HPn, z15⟩
              case measure => simp [intOf]; omega
            · have dW : decide (1 < Wv) = false := decide_eq_false (by omega)
              obtain ⟨m, hm⟩ : ∃ m : Nat, Hv = (m : Int) + 1 := ⟨(Hv - 1).toNat, by omega⟩
              subst hm
              have dA : decide (1 < (m : Int) + 1) = true := decide_eq_true (by omega)
              go_wp2_with fail
              refine (below_any m b A n c zs B w9 (hr.keep fun p hp => st9.bel.cell hp) hB (by omega) hn st9.cur (by omega) (by omega)).mono ?_
              rintro e w10 ⟨q, hq, rfl, hc10, h10⟩
              have st10 := st9.grown hc10 h10 hgb g3b hbw hB (by omega)
              have P10 := blk_grown P9 h10 g7b
              have Q10 := blk_grown Q9 h10 g8b
              have z10 := h10.size
              clear P9 Q9 h10 hc10 st9 p2 p3
              obtain ⟨v, hv⟩ : ∃ v : Nat, v = q + 1 := ⟨_, rfl⟩
              have t2 : (1 : Int) + (q : Int) = (v : Int) := by omega
              have t3 : IntKind.i64.wrap (1 + (q : Int)) = (v : Int) := by rw [IntWalk.i64_in _ (by omega)]; omega
              have v1 : 1 ≤ v := by omega
              have vm : v ≤ m := by omega
              clear hv
              have pa := blk_cell P10 1
              have ps := blk_cell P10 3
              have fps := blk_frozen (j := 3) P10
              have qa := blk_cell Q10 1
              have qs := blk_cell Q10 3
              have fqa := blk_frozen (j := 1) Q10
              have fqs := blk_frozen (j := 3) Q10
              simp only [List.getElem?_toArray, List.getElem?_cons_zero, List.getElem?_cons_succ] at pa ps qa qs
              have st11 := ((st10.set 1 (Ne.symm g8b) (Ne.symm g80) (Ne.symm g83) gr8 (by omega) (.int .i64 (Y + (v : Int)))).set 3 (Ne.symm g8b) (Ne.symm g80) (Ne.symm g83) gr8 (by omega) (.int .i64 ((m : Int) + 1 - (v : Int)))).set 3 (Ne.symm g7b) (Ne.symm g70) (Ne.symm g73) gr7 (by omega) (.int .i64 (v : Int))
              have Q11a := heap_setCell_same _ g8 3 _ _ (.int .i64 ((m : Int) + 1 - (v : Int))) (heap_setCell_same _ g8 1 _ _ (.int .i64 (Y + (v : Int))) Q10)
              have Q11 := blk_set (p := ⟨g7, 3, none⟩) Q11a g87 (.int .i64 (v : Int))
              have P11 := heap_setCell_same _ g7 3 _ _ (.int .i64 (v : Int)) (blk_set (p := ⟨g8, 3, none⟩) (blk_set (p := ⟨g8, 1, none⟩) P10 g78 (.int .i64 (Y + (v : Int)))) g78 (.int .i64 ((m : Int) + 1 - (v : Int))))
              obtain ⟨w11, hw11⟩ : ∃ w11, w11 = ((w10.setCell ⟨g8, 1, none⟩ (.int .i64 (Y + (v : Int)))).setCell ⟨g8, 3, none⟩ (.int .i64 ((m : Int) + 1 - (v : Int)))).setCell ⟨g7, 3, none⟩ (.int .i64 (v : Int)) := ⟨_, rfl⟩
              have z11 : w10.heap.size ≤ w11.heap.size := by rw [hw11]; simp only [World.setCell, Array.size_modify]; exact Nat.le_refl _
              rw [← hw11] at st11 Q11 P11
              have Q12 : w11.heap[g8]? = some (.cells #[.int .i64 X, .int .i64 (Y + (v : Int)), .int .i64 Wv, .int .i64 ((m : Int) + 1 - (v : Int)), .int .i64 C] 105 (0, 0)) := by simpa using Q11
              have P12 : w11.heap[g7]? = some (.cells #[.int .i64 X, .int .i64 Y, .int .i64 Wv, .int .i64 (v : Int), .int .i64 C] 105 (0, 0)) := by simpa using P11
              have HW := Lib.hid hw11
              clear hw11 Q11a Q11 P11 P10 Q10 st10
              go_wp2_with fail
              simp only [← HW.out]
              clear HW t2 t3 pa ps fps qa qs fqa fqs dA
              refine (below_any 5 b A n c zs B w11 (hr.keep fun p hp => st11.bel.cell hp) hB (by omega) hn st11.cur (by omega) (by omega)).mono ?_
              rintro e w12 ⟨col, hcol, rfl, hc12, h12⟩
              have st12 := st11.grown hc12 h12 hgb g3b hbw hB (by omega)
              have P13 := blk_grown P12 h12 g7b
              have Q13 := blk_grown Q12 h12 g8b
              have z12 := h12.size
              clear P12 Q12 h12 hc12 st11
              have b2 := blk_cell st12.box 2
              have fb2 := blk_frozen (j := 2) st12.box
              have pc0 := blk_cell P13 0
              have pc1 := blk_cell P13 1
              have pc2 := blk_cell P13 2
              have pc3 := blk_cell P13 3
              have pc4 := blk_cell P13 4
              have qc0 := blk_cell Q13 0
              have qc1 := blk_cell Q13 1
              have qc2 := blk_cell Q13 2
              have qc3 := blk_cell Q13 3
              have qc4 := blk_cell Q13 4
              have fq4 := blk_frozen (j := 4) Q13
              simp only [List.getElem?_toArray, List.getElem?_cons_zero, List.getElem?_cons_succ] at b2 pc0 pc1 pc2 pc3 pc4 qc0 qc1 qc2 qc3 qc4
              have r0 := st12.row.cellAt (i := i) (j := 0) hi (by omega)
              have r1 := st12.row.cellAt (i := i) (j := 1) hi (by omega)
              have r2 := st12.row.cellAt (i := i) (j := 2) hi (by omega)
              have r3 := st12.row.cellAt (i := i) (j := 3) hi (by omega)
              have r4 := st12.row.cellAt (i := i) (j := 4) hi (by omega)
              rw [Nat.add_zero] at r0
              have fr0 := st12.row.frozenAt (i * 5)
              have fr1 := st12.row.frozenAt (i * 5 + 1)
              have fr2 := st12.row.frozenAt (i * 5 + 2)
              have fr3 := st12.row.frozenAt (i * 5 + 3)
              have fr4 := st12.row.frozenAt (i * 5 + 4)
              have fr := (((((((st12.fr.set (p := ⟨g8, 4, none⟩) (Ne.symm g8b) (Ne.symm g80) (Ne.symm g83) (by show B ≤ g8; omega) (.int .i64 (col : Int))).set (p := ⟨gr, i * 5, none⟩) (Ne.symm grb) (Ne.symm gr0) (Ne.symm gr3) (by show B ≤ gr; omega) (.int .i64 X)).set (p := ⟨gr, i * 5 + 1, none⟩) (Ne.symm grb) (Ne.symm gr0) (Ne.symm gr3) (by show B ≤ gr; omega) (.int .i64 Y)).set (p := ⟨gr, i * 5 + 2, none⟩) (Ne.symm grb) (Ne.symm gr0) (Ne.symm gr3) (by show B ≤ gr; omega) (.int .i64 Wv)).set (p := ⟨gr, i * 5 + 3, none⟩) (Ne.symm grb) (Ne.symm gr0) (Ne.symm gr3) (by show B ≤ gr; omega) (.int .i64 (v : Int))).set (p := ⟨gr, i * 5 + 4, none⟩) (Ne.symm grb) (Ne.symm gr0) (Ne.symm gr3) (by show B ≤ gr; omega) (.int .i64 C)))
              have ro1 := (((((st12.row.setOther (p := ⟨g8, 4, none⟩) (x := .int .i64 (col : Int)) (fun k hk => by simp [Value.ownBlock] at hk; show g8 ≠ k; omega)).stored (i := i) (j := 0) (by omega) X).stored (i := i) (j := 1) (by omega) Y).stored (i := i) (j := 2) (by omega) Wv).stored (i := i) (j := 3) (by omega) (v : Int)).stored (i := i) (j := 4) (by omega) C
              have ro := ro1.congr (f' := updS f i (five X Y Wv (v : Int) C)) (by decide) (fun x hx y hy => by
                unfold updS upd2 five
                rcases (by omega : y = 0 ∨ y = 1 ∨ y = 2 ∨ y = 3 ∨ y = 4) with rfl | rfl | rfl | rfl | rfl <;> by_cases e : x = i <;> simp [e])
              obtain ⟨w13, hw13⟩ : ∃ w13, w13 = ((((((w12.setCell ⟨g8, 4, none⟩ (.int .i64 (col : Int))).setCell ⟨gr, i * 5, none⟩ (.int .i64 X)).setCell ⟨gr, i * 5 + 1, none⟩ (.int .i64 Y)).setCell ⟨gr, i * 5 + 2, none⟩ (.int .i64 Wv)).setCell ⟨gr, i * 5 + 3, none⟩ (.int .i64 (v : Int))).setCell ⟨gr, i * 5 + 4, none⟩ (.int .i64 C)) := ⟨_, rfl⟩
              have z13 : w13.heap.size = w12.heap.size := by rw [hw13]; simp only [World.setCell, Array.size_modify]
              have fr' : CutFr B b A n c g0 g3 W H gr N cN w w13 := by rw [hw13]; exact fr
              have ro' : OwnS 5 105 w13 w.heap.size (.slice (some ⟨gr, 0, none⟩) N cN) N (updS f i (five X Y Wv (v : Int) C)) := by rw [hw13]; exact ro
              have Q14 : w13.heap[g8]? = some (.cells #[.int .i64 X, .int .i64 (Y + (v : Int)), .int .i64 Wv, .int .i64 ((m : Int) + 1 - (v : Int)), .int .i64 (col : Int)] 105 (0, 0)) := by
                have h := blk_set (p := ⟨gr, i * 5 + 4, none⟩) (blk_set (p := ⟨gr, i * 5 + 3, none⟩) (blk_set (p := ⟨gr, i * 5 + 2, none⟩) (blk_set (p := ⟨gr, i * 5 + 1, none⟩) (blk_set (p := ⟨gr, i * 5, none⟩) (heap_setCell_same w12 g8 4 _ _ (.int .i64 (col : Int)) Q13) g8r (.int .i64 X)) g8r (.int .i64 Y)) g8r (.int .i64 Wv)) g8r (.int .i64 (v : Int))) g8r (.int .i64 C)
                rw [hw13]
                simpa using h
              have HW := Lib.hid hw13
              have HZ := Lib.hid z13
              have z13' : w12.heap.size ≤ w13.heap.size := by omega
              clear z13 hw13 fr ro1 ro
              have HPn := Lib.hid (show ∀ j, j < N + 1 → PatchI (updS (updS f i (five X Y Wv (v : Int) C)) N (five X (Y + (v : Int)) Wv ((m : Int) + 1 - (v : Int)) (col : Int)) j) from fun j hj => by
                rcases (by omega : j = N ∨ j < N) with rfl | h1
                · rw [updS_eq]; unfold PatchI; simp only [five]; omega
                · rw [updS_lt h1]
                  by_cases h2 : j = i
                  · subst h2; rw [updS_eq]; unfold PatchI; simp only [five]; omega
                  · unfold updS; rw [if_neg h2]; exact HP.out j h1)
              go_upto_region 24 with fail
              simp only [← HW.out]
              clear HW pc0 pc1 pc2 pc3 pc4 qc0 qc1 qc2 qc3 qc4 fq4 r0 r1 r2 r3 r4 fr0 fr1 fr2 fr3 fr4 b2 fb2
              have b2 := blk_cell fr'.box 2
              have qc0 := blk_cell Q14 0
              have qc1 := blk_cell Q14 1
              have qc2 := blk_cell Q14 2
              have qc3 := blk_cell Q14 3
              have qc4 := blk_cell Q14 4
              simp only [List.getElem?_toArray, List.getElem?_cons_zero, List.getElem?_cons_succ] at b2 qc0 qc1 qc2 qc3 qc4
              go_wp2_with (at_builtin; refine appS_grown Try.underlying68 info_patchD rfl (by decide) (by decide) rfl _ _ rfl w.heap.size N _ (updS f i (five X Y Wv (v : Int) C)) (five X (Y + (v : Int)) Wv ((m : Int) + 1 - (v : Int)) (col : Int)) w13.heap.size rfl (ro'.alloc _) rfl #[.int .i64 X, .int .i64 (Y + (v : Int)), .int .i64 Wv, .int .i64 ((m : Int) + 1 - (v : Int)), .int .i64 (col : Int)] rfl (by exact heap_alloc_new w13 _) (by omega) (by simp; omega) ?_; intro A14 c14 w14 ho14 hg14; have fr14 := (fr'.alloc (by omega) (.cells #[.int .i64 X, .int .i64 (Y + (v : Int)), .int .i64 Wv, .int .i64 ((m : Int) + 1 - (v : Int)), .int .i64 (col : Int)] 105)).grownRow (g := gr) hg14 (Ne.symm grb) (Ne.symm gr0) (Ne.symm gr3) (by omega) (by simp; omega); have x2 : w14.cell? ⟨g3, 2, none⟩ = some (.slice (some ⟨gr, 0, none⟩) N cN) := blk_cell fr14.box 2; have fx2 := blk_frozen (j := 2) fr14.box)
              obtain ⟨gn, rfl⟩ := ho14.some_ (by omega)
              have hgn := ho14.ge
              have z14 : w13.heap.size ≤ w14.heap.size := by have h := hg14.size; simp at h; omega
              have gn3 := row_box_ne ho14 fr14.box (by decide)
              have bx := heap_setCell_same w14 g3 2 _ _ (.slice (some ⟨gn, 0, none⟩) (N + 1) c14) fr14.box
              have st15 : CutSt B b w.heap.size A n c g0 g3 W H gn (N + 1) c14 (updS (updS f i (five X Y Wv (v : Int) C)) N (five X (Y + (v : Int)) Wv ((m : Int) + 1 - (v : Int)) (col : Int))) w (w14.setCell ⟨g3, 2, none⟩ (.slice (some ⟨gn, 0, none⟩) (N + 1) c14)) :=
                ⟨cur_set fr14.cur (Ne.symm g3b) _, blk_set fr14.res (Ne.symm g30) _, by simpa using bx, ho14.setOther (fun k hk => by simp [Value.ownBlock] at hk; show g3 ≠ k; omega), fr14.bel.setCell (p := ⟨g3, 2, none⟩) (by show B ≤ g3; omega) _⟩
              have z15 : g3 + 2 ≤ (w14.setCell ⟨g3, 2, none⟩ (.slice (some ⟨gn, 0, none⟩) (N + 1) c14)).heap.size := by simp only [World.setCell, Array.size_modify]; omega
              clear bx fr14 ho14 hg14 fr' ro' st12 HZ P13 Q13 Q14 qc0 qc1 qc2 qc3 qc4 b2
              go_roundw
              case rel => exact ⟨k + 1, gn, N + 1, c14, _, by omega, by go_num, st15, by omega, by omega, HPn, z15⟩
              case measure => simp [intOf]; omega
          · have dH : decide (1 < Hv) = false := decide_eq_false (by omega)
            rcases hB1 with rfl | ⟨rfl, hW1⟩
            · go_wp2
              go_roundw
              case rel => exact ⟨k + 1, gr, N, cN, f, by omega, by go_num, st9, N1, N12, HP, by omega⟩
              case measure => simp [intOf]; omega
            · have dW : decide (1 < Wv) = false := decide_eq_false (by omega)
              go_wp2
              go_roundw
              case rel => exact ⟨k + 1, gr, N, cN, f, by omega, by go_num, st9, N1, N12, HP, by omega⟩
              case measure => simp [intOf]; omega
      · have f0 := blk_cell st.res 0
        have f1 := blk_cell st.res 1
        have f2 := blk_cell st.res 2
        have e0 := blk_frozen (j := 0) st.res
        have e1 := blk_frozen (j := 1) st.res
        have e2 := blk_frozen (j := 2) st.res
        simp only [List.getElem?_toArray, List.getElem?_cons_zero, List.getElem?_cons_succ] at f0 f1 f2
        have gr0 := st.ne0
        have grg := st.row.ge
        have ho := ((st.row.setOther (p := ⟨g0, 0, none⟩) (x := .int .i64 W) (fun k hk => by simp [Value.ownBlock] at hk; show g0 ≠ k; omega)).setOther (p := ⟨g0, 1, none⟩) (x := .int .i64 H) (fun k hk => by simp [Value.ownBlock] at hk; show g0 ≠ k; omega)).setOther (p := ⟨g0, 2, none⟩) (x := .slice (some ⟨gr, 0, none⟩) N cN) (fun k hk => by simp [Value.ownBlock] at hk; show g0 ≠ k; omega)
        have hbe := ((st.bel.setCell (p := ⟨g0, 0, none⟩) (by show B ≤ g0; omega) (.int .i64 W)).setCell (p := ⟨g0, 1, none⟩) (by show B ≤ g0; omega) (.int .i64 H)).setCell (p := ⟨g0, 2, none⟩) (by show B ≤ g0; omega) (.slice (some ⟨gr, 0, none⟩) N cN)
        by_cases hkn2 : k < n8
        · have d1 : decide ((k : Int) < (n8 : Int)) = true := decide_eq_true (by omega)
          have d2 : decide ((N : Int) < 12) = false := decide_eq_false (by omega)
          go_wp2_with fail
          refine bodyPost_ret (v := .agg #[.int .i64 W, .int .i64 H, .slice (some ⟨gr, 0, none⟩) N cN]) (by simp [results, Try.results88, go_sem, f0, f1, f2]) rfl ⟨W, H, gr, N, cN, f, rfl, W0, W9, H0, H9, N1, N12, HP.out, ho, hbe⟩
        · have d1 : decide ((k : Int) < (n8 : Int)) = false := decide_eq_false (by omega)
          go_wp2_with fail
          refine bodyPost_ret (v := .agg #[.int .i64 W, .int .i64 H, .slice (some ⟨gr, 0, none⟩) N cN]) (by simp [results, Try.results88, go_sem, f0, f1, f2]) rfl ⟨W, H, gr, N, cN, f, rfl, W0, W9, H0, H9, N1, N12, HP.out, ho, hbe⟩
end Go.Proofs.Ythenjmjnooaokaa
