/- Contracts of the reference's drawing of blocks: l03Block, DrawBlock. -/
import Derived.Test.YthenjmjnooaokaaBlkE
namespace Go.Proofs.Ythenjmjnooaokaa
open Go.ChangeShapes Go.WideShapes Go.ChangeAt Go.RowKit
def BlkPost (B : Nat) (w : World) (e : Ending) (w' : World) : Prop := ∃ (S g cN : Nat) (f : Nat → Nat → Int), e = .returned (.agg #[.int .i64 S, .slice (some ⟨g, 0, none⟩) (S * S) cN]) ∧ 1 ≤ S ∧ S ≤ 4 ∧ (∀ k, k < S * S → cellOk (f k) = true) ∧
      OwnS 3 56 w' w.heap.size (.slice (some ⟨g, 0, none⟩) (S * S) cN) (S * S) f ∧ Below B w w'
theorem BlkPost.mk {B : Nat} {w : World} {w' : World} (S g cN : Nat) (f : Nat → Nat → Int) (M : Nat) (hM : M = S * S) (S1 : 1 ≤ S) (S4 : S ≤ 4) (hOK : ∀ k, k < M → cellOk (f k) = true) (ho : OwnS 3 56 w' w.heap.size (.slice (some ⟨g, 0, none⟩) M cN) M f) (hb : Below B w w') :
    BlkPost B w (.returned (.agg #[.int .i64 S, .slice (some ⟨g, 0, none⟩) M cN])) w' := by
  subst hM
  exact ⟨S, g, cN, f, rfl, S1, S4, hOK, ho, hb⟩
set_option maxRecDepth 100000 in
set_option maxHeartbeats 16000000 in
theorem block_drawn (b : Nat) (A : Option Addr) (n c : Nat) (zs : List Int) (B : Nat) (w : World) (hr : RowI .u8 w B A n c zs) (hB : B ≤ b) (hbw : b < w.heap.size) (hn : n ≤ 1048576) (hc : CurAt w b A n c) :
    Calls Try.prog 71 #[.pointer (some ⟨b, 0, none⟩)] w (BlkPost B w) := by
  have G0' : (w.alloc (.cells #[.int .i64 0, .slice none 0 0] 31)).heap[w.heap.size]? = some (.cells #[.int .i64 0, .slice none 0 0] 31 (0, 0)) := heap_alloc_new w _
  go_enter Try.func71, Try.ntmps71
  go_wp2_with fail
  obtain ⟨w0, hw0⟩ : ∃ w0, w0 = w.alloc (.cells #[.int .i64 0, .slice none 0 0] 31) := ⟨_, rfl⟩
  have hc0 : CurAt w0 b A n c := by rw [hw0]; exact cur_alloc hc _
  have hb0 : Below B w w0 := by rw [hw0]; exact (Below.refl _ _).alloc (by omega) _
  rw [← hw0] at G0' ⊢
  have z0 : w.heap.size + 1 ≤ w0.heap.size := by rw [hw0]; simp
  clear hw0
  refine (below_any 6 b A n c zs B w0 (hr.keep fun p hp => hb0.cell hp) hB (by omega) hn hc0 (by omega) (by omega)).mono ?_
  rintro e w1 ⟨v, hv, rfl, hc1, hg1⟩
  have G1 := blk_grown G0' hg1 (by omega)
  have hb1 := hb0.trans (grown_below hg1 hB (by omega))
  have z1 : w.heap.size + 1 ≤ w1.heap.size := Nat.le_trans z0 hg1.size
  clear G0' hb0 z0 hc0 hg1
  rcases (by omega : v = 0 ∨ v = 1 ∨ 2 ≤ v) with e | e | e
  · subst e
    go_wp2_with fail
    refine (star_any w1).mono ?_
    rintro e w2 ⟨g, rfl, ho, hb2⟩
    have G2 := blk_below G1 hb2 (by omega)
    have y0 : w2.cell? ⟨w.heap.size, 0, none⟩ = some (.int .i64 0) := by rw [blk_cell G2 0]; rfl
    have y1 : w2.cell? ⟨w.heap.size, 1, none⟩ = some (.slice none 0 0) := by rw [blk_cell G2 1]; rfl
    have q0 : w2.frozen? ⟨w.heap.size, 0, none⟩ = false := blk_frozen G2
    have q1 : w2.frozen? ⟨w.heap.size, 1, none⟩ = false := blk_frozen G2
    have hne : ∀ (u : World) (j : Nat) (x : Value), OwnS 3 56 u w1.heap.size (.slice (some ⟨g, 0, none⟩) 9 9) 9 starF → OwnS 3 56 (u.setCell ⟨w.heap.size, j, none⟩ x) w1.heap.size (.slice (some ⟨g, 0, none⟩) 9 9) 9 starF := fun u j x h => h.setOther fun q hq => by have := (World.ownsRow.lt h q hq).1; show w.heap.size ≠ q; omega
    have ho7 := (hne _ 1 (.slice (some ⟨g, 0, none⟩) 9 9) (hne _ 0 (.int .i64 3) ho)).base_ (show w.heap.size ≤ w1.heap.size by omega)
    have hb7 := ((hb1.trans (hb2.mono (by omega))).setCell (p := ⟨w.heap.size, 0, none⟩) (show B ≤ w.heap.size by omega) (.int .i64 3)).setCell (p := ⟨w.heap.size, 1, none⟩) (show B ≤ w.heap.size by omega) (.slice (some ⟨g, 0, none⟩) 9 9)
    clear G1 G2 ho hb1 hb2 hne
    go_wp2
    exact bodyPost_ret (v := .agg #[.int .i64 3, .slice (some ⟨g, 0, none⟩) 9 9]) (by simp [results, Try.results71, go_sem, y0, y1, q0, q1]) rfl (BlkPost.mk 3 g 9 starF 9 rfl (by omega) (by omega) (fun k _ => starF_ok k) ho7 hb7)
  · subst e
    go_wp2_with fail
    refine (below_any 4 b A n c zs B w1 (hr.keep fun p hp => hb1.cell hp) hB (by omega) hn hc1 (by omega) (by omega)).mono ?_
    rintro e w2 ⟨v1, hv1, rfl, hc2, hg2⟩
    have G2 := blk_grown G1 hg2 (by omega)
    have hb2 := hb1.trans (grown_below hg2 hB (by omega))
    have z2 : w.heap.size + 1 ≤ w2.heap.size := Nat.le_trans z1 hg2.size
    clear G1 hb1 z1 hc1 hg2
    obtain ⟨S, hS⟩ : ∃ S : Nat, S = v1 + 1 := ⟨_, rfl⟩
    have t2 : (1 : Int) + (v1 : Int) = (S : Int) := by omega
    have t3 : IntKind.i64.wrap (1 + (v1 : Int)) = (S : Int) := by rw [IntWalk.i64_in _ (by omega)]; omega
    have S1 : 1 ≤ S := by omega
    have S4 : S ≤ 4 := by omega
    clear hS
    go_wp2_with fail
    clear t2 t3 hv1
    refine (below_any 3 b A n c zs B w2 (hr.keep fun p hp => hb2.cell hp) hB (by omega) hn hc2 (by omega) (by omega)).mono ?_
    rintro e w3 ⟨v3, hv3, rfl, hc3, hg3⟩
    have G3 := blk_grown G2 hg3 (by omega)
    have hb3 := hb2.trans (grown_below hg3 hB (by omega))
    have z3 : w.heap.size + 1 ≤ w3.heap.size := Nat.le_trans z2 hg3.size
    clear G2 hb2 z2 hc2 hg3 hc3
    go_wp2_with fail
    refine (plain_any S v3 w3 S1 S4 (by omega) (by omega)).mono ?_
    rintro e w4 ⟨g, cN, rfl, ho, hb4⟩
    have G4 := blk_alloc (blk_below G3 hb4 (by omega)) (.cells #[.int .i64 S, .slice (some ⟨g, 0, none⟩) (S * S) cN] 31)
    have z4 : w.heap.size < w4.heap.size := by have := hb4.size; omega
    have zn : w.heap.size ≠ w4.heap.size := by omega
    obtain ⟨w5, hw5⟩ : ∃ w5, w5 = w4.alloc (.cells #[.int .i64 S, .slice (some ⟨g, 0, none⟩) (S * S) cN] 31) := ⟨_, rfl⟩
    have ho5 := ho.alloc (.cells #[.int .i64 S, .slice (some ⟨g, 0, none⟩) (S * S) cN] 31)
    have hb5 := (hb3.trans (hb4.mono (by omega))).alloc (by omega) (.cells #[.int .i64 S, .slice (some ⟨g, 0, none⟩) (S * S) cN] 31)
    have x0 : w5.cell? ⟨w4.heap.size, 0, none⟩ = some (.int .i64 S) := by rw [hw5]; go_simp
    have x1 : w5.cell? ⟨w4.heap.size, 1, none⟩ = some (.slice (some ⟨g, 0, none⟩) (S * S) cN) := by rw [hw5]; go_simp
    obtain ⟨M, hM⟩ : ∃ M, M = S * S := ⟨_, rfl⟩
    rw [← hM] at ho5 hb5 x1 hw5 G4
    rw [← hw5] at ho5 hb5 G4
    have y0 : w5.cell? ⟨w.heap.size, 0, none⟩ = some (.int .i64 0) := by rw [blk_cell G4 0]; rfl
    have y1 : w5.cell? ⟨w.heap.size, 1, none⟩ = some (.slice none 0 0) := by rw [blk_cell G4 1]; rfl
    have q0 : w5.frozen? ⟨w.heap.size, 0, none⟩ = false := blk_frozen G4
    have q1 : w5.frozen? ⟨w.heap.size, 1, none⟩ = false := blk_frozen G4
    have HM := Lib.hid hM
    have HW5 := Lib.hid hw5
    have hne : ∀ (u : World) (j : Nat) (x : Value), OwnS 3 56 u w3.heap.size (.slice (some ⟨g, 0, none⟩) M cN) M (fun _ => cellL 0 v3 v3) → OwnS 3 56 (u.setCell ⟨w.heap.size, j, none⟩ x) w3.heap.size (.slice (some ⟨g, 0, none⟩) M cN) M (fun _ => cellL 0 v3 v3) := fun u j x h => h.setOther fun q hq => by have := (World.ownsRow.lt h q hq).1; show w.heap.size ≠ q; omega
    have ho7 := (hne _ 1 (.slice (some ⟨g, 0, none⟩) M cN) (hne _ 0 (.int .i64 S) ho5)).base_ (show w.heap.size ≤ w3.heap.size by omega)
    have hb7 := (hb5.setCell (p := ⟨w.heap.size, 0, none⟩) (show B ≤ w.heap.size by omega) (.int .i64 S)).setCell (p := ⟨w.heap.size, 1, none⟩) (show B ≤ w.heap.size by omega) (.slice (some ⟨g, 0, none⟩) M cN)
    clear G3 G4 ho hb3 hb4 hne ho5 hb5 hw5 hM
    rw [← HM.out]
    go_upto_region 6 with fail
    rw [← HW5.out]
    go_wp2
    exact bodyPost_ret (v := .agg #[.int .i64 S, .slice (some ⟨g, 0, none⟩) M cN]) (by simp [results, Try.results71, go_sem, y0, y1, q0, q1]) rfl (BlkPost.mk S g cN (fun _ => cellL 0 v3 v3) M HM.out S1 S4 (fun k _ => whole_ok (by omega) (by omega)) ho7 hb7)
  · have e0 : ((v : Int) == 0) = false := beq_eq_false_iff_ne.2 (by omega)
    have e1 : ((v : Int) == 1) = false := beq_eq_false_iff_ne.2 (by omega)
    have e2 : (v == 0) = false := beq_eq_false_iff_ne.2 (by omega)
    have e3 : (v == 1) = false := beq_eq_false_iff_ne.2 (by omega)
    go_wp2_with fail
    refine (below_any 4 b A n c zs B w1 (hr.keep fun p hp => hb1.cell hp) hB (by omega) hn hc1 (by omega) (by omega)).mono ?_
    rintro e w2 ⟨v1, hv1, rfl, hc2, hg2⟩
    have G2 := blk_grown G1 hg2 (by omega)
    have hb2 := hb1.trans (grown_below hg2 hB (by omega))
    have z2 : w.heap.size + 1 ≤ w2.heap.size := Nat.le_trans z1 hg2.size
    clear G1 hb1 z1 hc1 hg2 e0 e1 e2 e3
    obtain ⟨S, hS⟩ : ∃ S : Nat, S = v1 + 1 := ⟨_, rfl⟩
    have t2 : (1 : Int) + (v1 : Int) = (S : Int) := by omega
    have t3 : IntKind.i64.wrap (1 + (v1 : Int)) = (S : Int) := by rw [IntWalk.i64_in _ (by omega)]; omega
    have S1 : 1 ≤ S := by omega
    have S4 : S ≤ 4 := by omega
    clear hS
    go_upto_region 8 with fail
    clear t2 t3 hv1
    obtain ⟨M, hM⟩ : ∃ M, M = S * S := ⟨_, rfl⟩
    have M16 : 1 ≤ M ∧ M ≤ 16 := by rcases (by omega : S = 1 ∨ S = 2 ∨ S = 3 ∨ S = 4) with e | e | e | e <;> subst e <;> omega
    have mm : (S : Int) * (S : Int) = (M : Int) := by rw [hM]; simp
    have mw : IntKind.i64.wrap ((S : Int) * (S : Int)) = (M : Int) := by rw [mm]; exact IntWalk.i64_in _ (by omega)
    have HM := Lib.hid hM
    clear hM
    obtain ⟨g1, hg1⟩ : ∃ g1, g1 = w2.heap.size := ⟨_, rfl⟩
    have st0 := cur_alloc hc2 (.cells #[.int .i64 S, .slice none 0 0] 31)
    have G3 := blk_alloc G2 (.cells #[.int .i64 S, .slice none 0 0] 31)
    have G4 : (w2.alloc (.cells #[.int .i64 S, .slice none 0 0] 31)).heap[g1]? = some (.cells #[.int .i64 S, .slice none 0 0] 31 (0, 0)) := by rw [hg1]; exact heap_alloc_new w2 _
    have hb3 := hb2.alloc (by omega) (.cells #[.int .i64 S, .slice none 0 0] 31)
    have z3 : g1 + 1 ≤ (w2.alloc (.cells #[.int .i64 S, .slice none 0 0] 31)).heap.size := by simp; omega
    have gw : w.heap.size < g1 := by omega
    have gb : g1 ≠ b := by have := hbw; omega
    have wb : w.heap.size ≠ b := by omega
    go_wp2_with fail
    rw [← hg1]
    obtain ⟨w3, hw3⟩ : ∃ w3, w3 = w2.alloc (.cells #[.int .i64 S, .slice none 0 0] 31) := ⟨_, rfl⟩
    rw [← hw3] at st0 G3 G4 hb3 z3 ⊢
    clear hw3 hg1 G2 hb2 z2 hc2
    go_loopw [7, 8] (fun i _ wr => ∃ (k : Nat) (A2 : Option Addr) (c2 : Nat) (f : Nat → Nat → Int), k ≤ M ∧ i = .int .i64 k ∧ CurAt wr b A n c ∧ wr.heap[w.heap.size]? = some (.cells #[.int .i64 0, .slice none 0 0] 31 (0, 0)) ∧ wr.heap[g1]? = some (.cells #[.int .i64 S, .slice A2 k c2] 31 (0, 0)) ∧ OwnS 3 56 wr (g1 + 1) (.slice A2 k c2) k f ∧ Hid (∀ j, j < k → cellOk (f j) = true) ∧ Below B w wr ∧ g1 + 1 ≤ wr.heap.size) (fun i _ _ => M - (intOf i).toNat)
    case atStart => exact ⟨0, none, 0, fun _ _ => 0, by omega, rfl, st0, G3, G4, ownS_nil _ _ _ _ _, Lib.hid (fun j hj => absurd hj (by omega)), hb3, z3⟩
    case round =>
      clear st0 G3 G4 hb3 z3
      obtain ⟨k, A2, c2, f, hk, rfl, hcu, G0, G1, hown, hOK, hb, hz⟩ := hrel
      by_cases hkm : k < M
      · have k0 : (0 : Int) ≤ (k : Int) := by omega
        have k3 : (k : Int) < (M : Int) := by omega
        go_wp2_with fail
        refine (cell_drawn b A n c zs B wr (hr.keep fun p hp => hb.cell hp) hB (by omega) hn hcu).mono ?_
        rintro e w4 ⟨x, hx, rfl, hc4, hg4⟩
        have H0 := blk_alloc (blk_grown G0 hg4 wb) (.cells #[.int .i64 (x 0), .int .i64 (x 1), .int .i64 (x 2)] 56)
        have H1 := blk_alloc (blk_grown G1 hg4 gb) (.cells #[.int .i64 (x 0), .int .i64 (x 1), .int .i64 (x 2)] 56)
        have z4 := hg4.size
        have hb4 := (hb.trans (grown_below hg4 hB (by omega))).alloc (by omega) (.cells #[.int .i64 (x 0), .int .i64 (x 1), .int .i64 (x 2)] 56)
        have ho4 := (ownS_grown hown hg4 (by omega)).alloc (.cells #[.int .i64 (x 0), .int .i64 (x 1), .int .i64 (x 2)] 56)
        have hc5 := cur_alloc hc4 (.cells #[.int .i64 (x 0), .int .i64 (x 1), .int .i64 (x 2)] 56)
        have HX := Lib.hid hx
        have u1 : (w4.alloc (.cells #[.int .i64 (x 0), .int .i64 (x 1), .int .i64 (x 2)] 56)).cell? ⟨g1, 1, none⟩ = some (.slice A2 k c2) := by rw [blk_cell H1 1]; rfl
        have zl : g1 < w4.heap.size := by omega
        have zn : g1 ≠ w4.heap.size := by omega
        have v1 : w4.cell? ⟨g1, 1, none⟩ = some (.slice A2 k c2) := by rw [blk_cell (blk_grown G1 hg4 gb) 1]; rfl
        have f1 : w4.frozen? ⟨g1, 1, none⟩ = false := blk_frozen (blk_grown G1 hg4 gb)
        clear hown G0 G1 hb hcu hc4 hg4 hx u1
        go_wp2_with (at_builtin; refine appS_grown Try.underlying29 info_cellD rfl (by decide) (by decide) rfl _ _ rfl (g1 + 1) k _ f x (w4.heap.size + 1) rfl (ho4.alloc _) rfl #[.int .i64 (x 0), .int .i64 (x 1), .int .i64 (x 2)] rfl (by exact (by simp : (w4.alloc _).heap.size = w4.heap.size + 1) ▸ heap_alloc_new (w4.alloc _) _) (by omega) (by simp; omega) ?_; intro A6 c6 w6 ho6 hg6; have G6 := row_far hg6 ho4 (blk_alloc H1 _); have t0 : w6.cell? ⟨g1, 1, none⟩ = some (.slice A2 k c2) := (by rw [blk_cell G6 1]; rfl); have t1 : w6.frozen? ⟨g1, 1, none⟩ = false := blk_frozen G6)
        have G5 := row_far hg6 ho4 (blk_alloc H0 (.cells #[.int .i64 (x 0), .int .i64 (x 1), .int .i64 (x 2)] 56))
        have G7 := heap_setCell_same w6 g1 1 _ _ (.slice A6 (k + 1) c6) G6
        have G7' : (w6.setCell ⟨g1, 1, none⟩ (.slice A6 (k + 1) c6)).heap[g1]? = some (.cells #[.int .i64 S, .slice A6 (k + 1) c6] 31 (0, 0)) := by simpa using G7
        have G8 := blk_set G5 (p := ⟨g1, 1, none⟩) (show w.heap.size ≠ g1 by omega) (.slice A6 (k + 1) c6)
        have ho7 := ho6.setOther (p := ⟨g1, 1, none⟩) (x := .slice A6 (k + 1) c6) (fun q hq => by have := (World.ownsRow.lt ho6 q hq).1; show g1 ≠ q; omega)
        have hcc : CurAt w6 b A n c := by
          obtain ⟨i, xx, hi, hh⟩ := cur_alloc hc5 (.cells #[.int .i64 (x 0), .int .i64 (x 1), .int .i64 (x 2)] 56)
          exact ⟨i, xx, hi, row_far hg6 ho4 hh⟩
        have hc7 := cur_set hcc (p := ⟨g1, 1, none⟩) (show b ≠ g1 by omega) (.slice A6 (k + 1) c6)
        have hb7 := ((hb4.alloc (by simp; omega) (.cells #[.int .i64 (x 0), .int .i64 (x 1), .int .i64 (x 2)] 56)).grown hg6 (by simp; omega) (fun q hq => by have := (World.ownsRow.lt ho4 q hq).1; omega)).setCell (p := ⟨g1, 1, none⟩) (show B ≤ g1 by omega) (.slice A6 (k + 1) c6)
        have z9 : g1 + 1 ≤ (w6.setCell ⟨g1, 1, none⟩ (.slice A6 (k + 1) c6)).heap.size := by have := hg6.size; simp [World.setCell] at this ⊢; omega
        have hOK2 := Lib.hid (show ∀ j, j < k + 1 → cellOk (updS f k x j) = true by
          intro j hj
          rcases (by omega : j < k ∨ j = k) with q | rfl
          · rw [updS_lt q]; exact hOK.out j q
          · rw [updS_eq]; exact HX.out)
        clear H0 H1 hb4 ho4 hc5 hg6 G5 G6 G7 t0 t1 ho6 hcc v1 f1
        go_roundw
        case rel => exact ⟨k + 1, A6, c6, _, by omega, by go_num, hc7, G8, G7', ho7, hOK2, hb7, z9⟩
        case measure => simp [intOf]; omega
      · obtain rfl : k = M := by omega
        have k3 : ¬ (k : Int) < (k : Int) := by omega
        obtain ⟨g, rfl⟩ := hown.some_ (by omega)
        have x0 : wr.cell? ⟨g1, 0, none⟩ = some (.int .i64 S) := by rw [blk_cell G1 0]; rfl
        have x1 : wr.cell? ⟨g1, 1, none⟩ = some (.slice (some ⟨g, 0, none⟩) k c2) := by rw [blk_cell G1 1]; rfl
        have y0 : wr.cell? ⟨w.heap.size, 0, none⟩ = some (.int .i64 0) := by rw [blk_cell G0 0]; rfl
        have y1 : wr.cell? ⟨w.heap.size, 1, none⟩ = some (.slice none 0 0) := by rw [blk_cell G0 1]; rfl
        have q0 : wr.frozen? ⟨w.heap.size, 0, none⟩ = false := blk_frozen G0
        have q1 : wr.frozen? ⟨w.heap.size, 1, none⟩ = false := blk_frozen G0
        have hne : ∀ (u : World) (j : Nat) (x : Value), OwnS 3 56 u (g1 + 1) (.slice (some ⟨g, 0, none⟩) k c2) k f → OwnS 3 56 (u.setCell ⟨w.heap.size, j, none⟩ x) (g1 + 1) (.slice (some ⟨g, 0, none⟩) k c2) k f := fun u j x h => h.setOther fun q hq => by have := (World.ownsRow.lt h q hq).1; show w.heap.size ≠ q; omega
        have ho7 := (hne _ 1 (.slice (some ⟨g, 0, none⟩) k c2) (hne _ 0 (.int .i64 S) hown)).base_ (show w.heap.size ≤ g1 + 1 by omega)
        have hb7 := (hb.setCell (p := ⟨w.heap.size, 0, none⟩) (show B ≤ w.heap.size by omega) (.int .i64 S)).setCell (p := ⟨w.heap.size, 1, none⟩) (show B ≤ w.heap.size by omega) (.slice (some ⟨g, 0, none⟩) k c2)
        clear G0 G1 hown hb hne hcu
        go_wp2
        exact bodyPost_ret (v := .agg #[.int .i64 S, .slice (some ⟨g, 0, none⟩) k c2]) (by simp [results, Try.results71, go_sem, y0, y1, q0, q1]) rfl (BlkPost.mk S g c2 f k HM.out S1 S4 hOK.out ho7 hb7)
set_option maxRecDepth 100000 in
set_option maxHeartbeats 4000000 in
theorem drawBlock_any (A : Option Addr) (n c : Nat) (zs : List Int) (w : World) (hr : RowI .u8 w w.heap.size A n c zs) (hn : n ≤ 1048576) :
    Calls Try.prog 30 #[.slice A n c] w (BlkPost w.heap.size w) := by
  have G0 : (w.alloc (.cells #[.int .i64 0, .slice none 0 0] 31)).heap[w.heap.size]? = some (.cells #[.int .i64 0, .slice none 0 0] 31 (0, 0)) := heap_alloc_new w _
  have hb0 : Below w.heap.size w (w.alloc (.cells #[.int .i64 0, .slice none 0 0] 31)) := (Below.refl _ _).alloc (Nat.le_refl _) _
  go_enter Try.func30, Try.ntmps30
  go_wp2_with fail
  obtain ⟨w0, hw0⟩ : ∃ w0, w0 = w.alloc (.cells #[.int .i64 0, .slice none 0 0] 31) := ⟨_, rfl⟩
  rw [← hw0] at G0 hb0 ⊢
  have z0 : w0.heap.size = w.heap.size + 1 := by rw [hw0]; simp
  have HZ0 := Lib.hid z0
  have z0' : w.heap.size + 1 ≤ w0.heap.size := by omega
  clear hw0 z0
  refine (new_any A n c zs w.heap.size w0 (hr.keep fun p hp => hb0.cell hp) hn).mono ?_
  rintro e w1 ⟨rfl, hc1, hb1, z1⟩
  have hz1 : w0.heap.size < w1.heap.size := by omega
  have G1 := blk_below G0 hb1 (by omega)
  have hb2 := hb0.trans (hb1.mono (by omega))
  clear G0 hb0 hb1 z1
  go_wp2_with fail
  refine (block_drawn w0.heap.size A n c zs w0.heap.size w1 ((hr.keep fun p hp => hb2.cell hp).more (by omega)) (Nat.le_refl _) hz1 hn hc1).mono ?_
  rintro e w2 ⟨S, g, cN, f, rfl, S1, S4, hOK, ho, hb3⟩
  obtain ⟨M, hM⟩ : ∃ M, M = S * S := ⟨_, rfl⟩
  have HM := Lib.hid hM
  rw [← hM] at ho hOK ⊢
  clear hM
  have G2 := blk_below G1 hb3 (by omega)
  have hb4 := hb2.trans (hb3.mono (by omega))
  have y0 : w2.cell? ⟨w.heap.size, 0, none⟩ = some (.int .i64 0) := by rw [blk_cell G2 0]; rfl
  have y1 : w2.cell? ⟨w.heap.size, 1, none⟩ = some (.slice none 0 0) := by rw [blk_cell G2 1]; rfl
  have q0 : w2.frozen? ⟨w.heap.size, 0, none⟩ = false := blk_frozen G2
  have q1 : w2.frozen? ⟨w.heap.size, 1, none⟩ = false := blk_frozen G2
  have hne : ∀ (u : World) (j : Nat) (x : Value), OwnS 3 56 u w1.heap.size (.slice (some ⟨g, 0, none⟩) M cN) M f → OwnS 3 56 (u.setCell ⟨w.heap.size, j, none⟩ x) w1.heap.size (.slice (some ⟨g, 0, none⟩) M cN) M f := fun u j x h => h.setOther fun q hq => by have := (World.ownsRow.lt h q hq).1; show w.heap.size ≠ q; omega
  have ho7 := (hne _ 1 (.slice (some ⟨g, 0, none⟩) M cN) (hne _ 0 (.int .i64 S) ho)).base_ (show w.heap.size ≤ w1.heap.size by omega)
  have hb7 := (hb4.setCell (p := ⟨w.heap.size, 0, none⟩) (Nat.le_refl _) (.int .i64 S)).setCell (p := ⟨w.heap.size, 1, none⟩) (Nat.le_refl _) (.slice (some ⟨g, 0, none⟩) M cN)
  have HOK := Lib.hid hOK
  clear G1 G2 ho hb2 hb3 hb4 hne hc1 hOK
  go_wp2
  exact bodyPost_ret (v := .agg #[.int .i64 S, .slice (some ⟨g, 0, none⟩) M cN]) (by simp [results, Try.results30, go_sem, y0, y1, q0, q1]) rfl (BlkPost.mk S g cN f M HM.out S1 S4 HOK.out ho7 hb7)
end Go.Proofs.Ythenjmjnooaokaa
