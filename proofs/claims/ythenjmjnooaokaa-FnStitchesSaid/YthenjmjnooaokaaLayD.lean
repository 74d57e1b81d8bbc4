/- Contract of the reference's DrawLayout. -/
import Derived.Test.YthenjmjnooaokaaCutD
namespace Go.Proofs.Ythenjmjnooaokaa
open Go.ChangeShapes Go.WideShapes Go.ChangeAt Go.RowKit
set_option maxHeartbeats 4000000 in
theorem drawLayout_any (A : Option Addr) (n c : Nat) (zs : List Int) (w : World) (hr : RowI .u8 w w.heap.size A n c zs) (hn : n ≤ 1048576) :
    Calls Try.prog 48 #[.slice A n c] w fun e w' => ∃ (W H : Int) (gr N cN : Nat) (f : Nat → Nat → Int), e = .returned (.agg #[.int .i64 W, .int .i64 H, .slice (some ⟨gr, 0, none⟩) N cN]) ∧ 0 ≤ W ∧ W ≤ 9 ∧ 0 ≤ H ∧ H ≤ 9 ∧ 1 ≤ N ∧ N ≤ 12 ∧
      (∀ j, j < N → PatchI (f j)) ∧ OwnS 5 105 w' w.heap.size (.slice (some ⟨gr, 0, none⟩) N cN) N f ∧ Below w.heap.size w w' := by
  obtain ⟨g0, hg0⟩ : ∃ g0, g0 = w.heap.size := ⟨_, rfl⟩
  have G1 : (w.alloc (.cells #[.int .i64 0, .int .i64 0, .slice none 0 0] 70)).heap[g0]? = some (.cells #[.int .i64 0, .int .i64 0, .slice none 0 0] 70 (0, 0)) := by rw [hg0]; exact heap_alloc_new w _
  have z0 : (w.alloc (.cells #[.int .i64 0, .int .i64 0, .slice none 0 0] 70)).heap.size = g0 + 1 := by simp [hg0]
  have k0 : Below g0 w (w.alloc (.cells #[.int .i64 0, .int .i64 0, .slice none 0 0] 70)) := (Below.refl _ _).alloc (by omega) _
  rw [← hg0] at hr ⊢
  have HG := Lib.hid hg0
  clear hg0
  go_enter Try.func48, Try.ntmps48
  go_wp2_with fail
  simp only [← HG.out]
  obtain ⟨w0, hw0⟩ : ∃ w0, w0 = w.alloc (.cells #[.int .i64 0, .int .i64 0, .slice none 0 0] 70) := ⟨_, rfl⟩
  rw [← hw0] at G1 k0 z0 ⊢
  clear hw0
  have hr0 : RowI .u8 w0 (g0 + 1) A n c zs := (hr.keep fun p hp => k0.cell hp).more (by omega)
  refine (new_any A n c zs (g0 + 1) w0 hr0 hn).mono ?_
  rintro e w1 ⟨rfl, hc1, hb1, z1⟩
  rw [z0] at hc1 hb1 ⊢
  have z1' : g0 + 2 ≤ w1.heap.size := by omega
  clear z0 z1
  go_wp2_with fail
  refine (cut_drawn (g0 + 1) A n c zs (g0 + 1) w1 (hr0.keep fun p hp => hb1.cell hp) (Nat.le_refl _) (by omega) hn hc1).mono ?_
  rintro e w2 ⟨W, H, gr, N, cN, f, rfl, W0, W9, H0, H9, N1, N12, hP, ho, hb2⟩
  have HP := Lib.hid hP
  have G2 := blk_below (blk_below G1 hb1 (by omega)) hb2 (by omega)
  have x0 := blk_cell G2 0
  have x1 := blk_cell G2 1
  have x2 := blk_cell G2 2
  have e0 := blk_frozen (j := 0) G2
  have e1 := blk_frozen (j := 1) G2
  have e2 := blk_frozen (j := 2) G2
  simp only [List.getElem?_toArray, List.getElem?_cons_zero, List.getElem?_cons_succ] at x0 x1 x2
  have hgr := ho.ge
  have ho2 := ((ho.setOther (p := ⟨g0, 0, none⟩) (x := .int .i64 W) (fun k hk => by simp [Value.ownBlock] at hk; show g0 ≠ k; omega)).setOther (p := ⟨g0, 1, none⟩) (x := .int .i64 H) (fun k hk => by simp [Value.ownBlock] at hk; show g0 ≠ k; omega)).setOther (p := ⟨g0, 2, none⟩) (x := .slice (some ⟨gr, 0, none⟩) N cN) (fun k hk => by simp [Value.ownBlock] at hk; show g0 ≠ k; omega)
  have hbe := (((k0.trans (hb1.mono (by omega))).trans (hb2.mono (by omega))).setCell (p := ⟨g0, 0, none⟩) (Nat.le_refl _) (.int .i64 W)).setCell (p := ⟨g0, 1, none⟩) (Nat.le_refl _) (.int .i64 H)
  have hbe := hbe.setCell (p := ⟨g0, 2, none⟩) (Nat.le_refl _) (.slice (some ⟨gr, 0, none⟩) N cN)
  clear G1 G2 hb1 hb2 hc1 hr0 k0 hP ho
  go_wp2_with fail
  exact bodyPost_ret (v := .agg #[.int .i64 W, .int .i64 H, .slice (some ⟨gr, 0, none⟩) N cN]) (by simp [results, Try.results48, go_sem, x0, x1, x2]) rfl ⟨W, H, gr, N, cN, f, rfl, W0, W9, H0, H9, N1, N12, HP.out, ho2.base_ (by omega), hbe⟩
end Go.Proofs.Ythenjmjnooaokaa
