/- Contracts of the reference's drawing of cells and blocks: WholeCell, SplitCell, l02Cell. -/
import Derived.Test.YthenjmjnooaokaaCurs
import Derived.Test.YthenjmjnooaokaaAppS
import Derived.Test.YthenjmjnooaokaaCell
import Derived.Test.YthenjmjnooaokaaPureBl
import Derived.Outline
import Derived.Deep.DeepCutAuto
namespace Go.Proofs.Ythenjmjnooaokaa
open Go.ChangeShapes Go.WideShapes Go.ChangeAt Go.RowKit
def cellL (a b c : Int) : Nat → Int
  | 0 => a
  | 1 => b
  | _ => c
theorem cur_alloc {w : World} {b n c : Nat} {A : Option Addr} (h : CurAt w b A n c) (o : Obj) : CurAt (w.alloc o) b A n c := by
  obtain ⟨i, x, hi, hh⟩ := h
  exact ⟨i, x, hi, blk_alloc hh o⟩
theorem cur_set {w : World} {b n c : Nat} {A : Option Addr} (h : CurAt w b A n c) {p : Addr} (hne : b ≠ p.block) (u : Value) : CurAt (w.setCell p u) b A n c := by
  obtain ⟨i, x, hi, hh⟩ := h
  exact ⟨i, x, hi, blk_set hh hne u⟩
theorem cell_wf {f : Nat → Int} (h : cellOk f = true) {j : Nat} (hj : j < 3) : (Lit.int .i64 (f j)).wf = true := by
  obtain ⟨⟨a1, a2⟩, ⟨b1, b2⟩, ⟨c1, c2⟩, _⟩ := cellOk_t h
  rcases (by omega : j = 0 ∨ j = 1 ∨ j = 2) with rfl | rfl | rfl <;> exact WalkArith.wf_i64 (by omega)
theorem whole_ok {a : Int} (h0 : 0 ≤ a) (h5 : a ≤ 5) : cellOk (cellL 0 a a) = true := by
  simp only [cellOk, cellL, inB]
  simp [h0, h5]
set_option maxHeartbeats 2000000 in
theorem whole_any (a : Int) (w : World) (h0 : 0 ≤ a) (h5 : a ≤ 5) : Calls Try.prog 79 #[.int .i64 a] w fun e w' => e = .returned (.agg #[.int .i64 0, .int .i64 a, .int .i64 a]) ∧ Below w.heap.size w w' := by
  have hI : inB a 0 5 = true := by unfold inB; simp [h0, h5]
  go_enter Try.func79, Try.ntmps79
  go_wp2_with (go_at_call 50; refine (l01In_any _ _ _ _).mono ?_; rintro e w' ⟨rfl, rfl⟩; rw [hI])
  exact bodyPost_ret (v := .agg #[.int .i64 0, .int .i64 a, .int .i64 a]) (by simp [results, Try.results79, go_sem]) rfl ⟨rfl, (Below.refl _ _).alloc (Nat.le_refl _) _⟩
set_option maxHeartbeats 4000000 in
theorem split_any (s a b : Int) (w : World) (a0 : 0 ≤ a) (a5 : a ≤ 5) : Calls Try.prog 109 #[.int .i64 s, .int .i64 a, .int .i64 b] w fun e w' => ∃ f : Nat → Int, cellOk f = true ∧ e = .returned (.agg #[.int .i64 (f 0), .int .i64 (f 1), .int .i64 (f 2)]) ∧ Below w.heap.size w w' := by
  by_cases hab : a = b
  · subst hab
    have hW := whole_ok a0 a5
    have t1 : ((a : Int) == a) = true := by simp
    go_enter Try.func109, Try.ntmps109
    go_wp2_with fail
    refine (whole_any a _ a0 a5).mono ?_
    rintro e w1 ⟨rfl, hb1⟩
    obtain ⟨hcc, hfc⟩ := bcell hb1
    have y0 := (hcc w.heap.size 0 (by simp)).trans (by go_simp : _ = some (.int .i64 0))
    have y1 := (hcc w.heap.size 1 (by simp)).trans (by go_simp : _ = some (.int .i64 0))
    have y2 := (hcc w.heap.size 2 (by simp)).trans (by go_simp : _ = some (.int .i64 0))
    have z0 := (hfc w.heap.size 0 (by simp)).trans (by go_simp : _ = false)
    have z1 := (hfc w.heap.size 1 (by simp)).trans (by go_simp : _ = false)
    have z2 := (hfc w.heap.size 2 (by simp)).trans (by go_simp : _ = false)
    have hb2 := ((Below.refl w.heap.size w).alloc (Nat.le_refl _) (.cells #[.int .i64 0, .int .i64 0, .int .i64 0] 56)).trans (hb1.mono (by simp))
    have hb5 := ((hb2.setCell (p := ⟨w.heap.size, 0, none⟩) (Nat.le_refl _) (.int .i64 0)).setCell (p := ⟨w.heap.size, 1, none⟩) (Nat.le_refl _) (.int .i64 a)).setCell (p := ⟨w.heap.size, 2, none⟩) (Nat.le_refl _) (.int .i64 a)
    clear hcc hfc hb1 hb2
    go_wp2
    exact bodyPost_ret (v := .agg #[.int .i64 0, .int .i64 a, .int .i64 a]) (by simp [results, Try.results109, go_sem, y0, y1, y2, z0, z1, z2]) rfl ⟨cellL 0 a a, hW, rfl, hb5⟩
  · have t1 : ((a : Int) == b) = false := beq_eq_false_iff_ne.2 hab
    go_enter Try.func109, Try.ntmps109
    go_wp2_with fail
    refine (spec_cellOk (cellL s a b) _).mono ?_
    rintro e w1 ⟨rfl, hb1⟩
    obtain ⟨hcc, hfc⟩ := bcell hb1
    have x0 := (hcc (w.heap.size + 1) 0 (by simp)).trans (by go_simp : _ = some (.int .i64 s))
    have x1 := (hcc (w.heap.size + 1) 1 (by simp)).trans (by go_simp : _ = some (.int .i64 a))
    have x2 := (hcc (w.heap.size + 1) 2 (by simp)).trans (by go_simp : _ = some (.int .i64 b))
    have y0 := (hcc w.heap.size 0 (by simp; omega)).trans (by go_simp : _ = some (.int .i64 0))
    have y1 := (hcc w.heap.size 1 (by simp; omega)).trans (by go_simp : _ = some (.int .i64 0))
    have y2 := (hcc w.heap.size 2 (by simp; omega)).trans (by go_simp : _ = some (.int .i64 0))
    have z0 := (hfc w.heap.size 0 (by simp; omega)).trans (by go_simp : _ = false)
    have z1 := (hfc w.heap.size 1 (by simp; omega)).trans (by go_simp : _ = false)
    have z2 := (hfc w.heap.size 2 (by simp; omega)).trans (by go_simp : _ = false)
    have hb2 := (((Below.refl w.heap.size w).alloc (Nat.le_refl _) (.cells #[.int .i64 0, .int .i64 0, .int .i64 0] 56)).alloc (by simp) (.cells #[.int .i64 s, .int .i64 a, .int .i64 b] 56)).trans (hb1.mono (by simp; omega))
    clear hcc hfc hb1
    rcases (Bool.eq_false_or_eq_true (cellOk (cellL s a b))).symm with hO | hO
    · have hb5 := ((hb2.setCell (p := ⟨w.heap.size, 0, none⟩) (Nat.le_refl _) (.int .i64 0)).setCell (p := ⟨w.heap.size, 1, none⟩) (Nat.le_refl _) (.int .i64 0)).setCell (p := ⟨w.heap.size, 2, none⟩) (Nat.le_refl _) (.int .i64 0)
      rw [hO]
      clear hO
      go_wp2
      exact bodyPost_ret (v := .agg #[.int .i64 0, .int .i64 0, .int .i64 0]) (by simp [results, Try.results109, go_sem, y0, y1, y2, z0, z1, z2]) rfl ⟨cellL 0 0 0, by decide, rfl, hb5⟩
    · have hb5 := ((hb2.setCell (p := ⟨w.heap.size, 0, none⟩) (Nat.le_refl _) (.int .i64 s)).setCell (p := ⟨w.heap.size, 1, none⟩) (Nat.le_refl _) (.int .i64 a)).setCell (p := ⟨w.heap.size, 2, none⟩) (Nat.le_refl _) (.int .i64 b)
      have HO := Lib.hid hO
      rw [hO]
      clear hO
      go_wp2
      exact bodyPost_ret (v := .agg #[.int .i64 s, .int .i64 a, .int .i64 b]) (by simp [results, Try.results109, go_sem, y0, y1, y2, z0, z1, z2]) rfl ⟨cellL s a b, HO.out, rfl, hb5⟩
set_option maxHeartbeats 4000000 in
/-- a drawn cell; the cursor goes on -/
theorem cell_drawn (b : Nat) (A : Option Addr) (n c : Nat) (zs : List Int) (B : Nat) (w : World) (hr : RowI .u8 w B A n c zs) (hB : B ≤ b) (hbw : b < w.heap.size) (hn : n ≤ 1048576) (hc : CurAt w b A n c) :
    Calls Try.prog 98 #[.pointer (some ⟨b, 0, none⟩)] w fun e w' => ∃ f : Nat → Int, cellOk f = true ∧ e = .returned (.agg #[.int .i64 (f 0), .int .i64 (f 1), .int .i64 (f 2)]) ∧ CurAt w' b A n c ∧ w.grownBy w' (some b) := by
  go_enter Try.func98, Try.ntmps98
  go_wp2_with fail
  obtain ⟨w0, hw0⟩ : ∃ w0, w0 = w.alloc (.cells #[.int .i64 0, .int .i64 0, .int .i64 0] 56) := ⟨_, rfl⟩
  have hc0 : CurAt w0 b A n c := by rw [hw0]; exact cur_alloc hc _
  have g0 : w.grownBy w0 (some b) := by rw [hw0]; exact grown_alloc (World.grownBy.refl _ _) _
  have hr0 : RowI .u8 w0 B A n c zs := by rw [hw0]; exact hr.keep fun p hp => ((Below.refl _ _).alloc (by omega) _).cell hp
  have G0 : w0.heap[w.heap.size]? = some (.cells #[.int .i64 0, .int .i64 0, .int .i64 0] 56 (0, 0)) := by rw [hw0]; exact heap_alloc_new w _
  have z0 : w.heap.size + 1 ≤ w0.heap.size := by rw [hw0]; simp
  rw [← hw0]
  clear hw0
  refine (below_any 3 b A n c zs B w0 hr0 hB (by omega) hn hc0 (by omega) (by omega)).mono ?_
  rintro e w1 ⟨v1, hv1, rfl, hc1, hg1⟩
  have hr1 : RowI .u8 w1 B A n c zs := hr0.keep fun p hp => (grown_below hg1 hB (by omega)).cell hp
  have G1 := blk_grown G0 hg1 (by omega)
  have g1 := cur_grown_trans g0 hg1
  have z1 := hg1.size
  clear g0 G0 hr0 hc0 hg1
  go_wp2_with fail
  refine (below_any 3 b A n c zs B w1 hr1 hB (by omega) hn hc1 (by omega) (by omega)).mono ?_
  rintro e w2 ⟨v2, hv2, rfl, hc2, hg2⟩
  have hr2 : RowI .u8 w2 B A n c zs := hr1.keep fun p hp => (grown_below hg2 hB (by omega)).cell hp
  have G2 := blk_grown G1 hg2 (by omega)
  have g2 := cur_grown_trans g1 hg2
  have z2 := hg2.size
  clear g1 G1 hr1 hc1 hg2
  go_wp2_with fail
  refine (below_any 3 b A n c zs B w2 hr2 hB (by omega) hn hc2 (by omega) (by omega)).mono ?_
  rintro e w3 ⟨v3, hv3, rfl, hc3, hg3⟩
  have G3 := blk_grown G2 hg3 (by omega)
  have g3 := cur_grown_trans g2 hg3
  have z3 := hg3.size
  clear g2 G2 hr2 hc2 hg3
  go_wp2_with fail
  refine (split_any (v1 : Int) v2 v3 w3 (by omega) (by omega)).mono ?_
  rintro e w4 ⟨f, hf, rfl, hb4⟩
  have G4 := blk_below G3 hb4 (blk_lt G3)
  have hc4 := cur_below hc3 hb4 (by omega)
  have z4 := hb4.size
  have g4 : w.grownBy w4 (some b) := ⟨hb4.os.trans g3.os, hb4.tape.trans g3.tape, hb4.output.trans g3.output, by omega, fun i hi hne => (hb4.block i (by omega)).trans (g3.block i hi hne)⟩
  have y0 := blk_cell G4 0
  have y1 := blk_cell G4 1
  have y2 := blk_cell G4 2
  simp only [List.getElem?_toArray, List.getElem?_cons_zero, List.getElem?_cons_succ] at y0 y1 y2
  have q0 : w4.frozen? ⟨w.heap.size, 0, none⟩ = false := blk_frozen G4
  have q1 : w4.frozen? ⟨w.heap.size, 1, none⟩ = false := blk_frozen G4
  have q2 : w4.frozen? ⟨w.heap.size, 2, none⟩ = false := blk_frozen G4
  have HF := Lib.hid hf
  have hc5 := cur_set (cur_set (cur_set hc4 (p := ⟨w.heap.size, 0, none⟩) (show b ≠ w.heap.size by omega) (.int .i64 (f 0))) (p := ⟨w.heap.size, 1, none⟩) (show b ≠ w.heap.size by omega) (.int .i64 (f 1))) (p := ⟨w.heap.size, 2, none⟩) (show b ≠ w.heap.size by omega) (.int .i64 (f 2))
  have g5 := grown_set (grown_set (grown_set g4 (p := ⟨w.heap.size, 0, none⟩) (Nat.le_refl _) (.int .i64 (f 0))) (p := ⟨w.heap.size, 1, none⟩) (Nat.le_refl _) (.int .i64 (f 1))) (p := ⟨w.heap.size, 2, none⟩) (Nat.le_refl _) (.int .i64 (f 2))
  clear hb4 G3 G4 g3 g4 hc3 hc4 hf
  go_wp2
  exact bodyPost_ret (v := .agg #[.int .i64 (f 0), .int .i64 (f 1), .int .i64 (f 2)]) (by simp [results, Try.results98, go_sem, y0, y1, y2, q0, q1, q2]) rfl ⟨f, HF.out, rfl, hc5, g5⟩
end Go.Proofs.Ythenjmjnooaokaa
