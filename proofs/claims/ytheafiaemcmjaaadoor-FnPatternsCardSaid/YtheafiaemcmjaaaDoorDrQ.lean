/- Contracts of the reference's drawing of quilts: l17Blocks, l17Quilt, DrawQuilt. -/
import Derived.Test.YtheafiaemcmjaaaDoorBlkF
import Derived.Test.YtheafiaemcmjaaaDoorPureQu
import Derived.Deep.RegionHeld3
namespace Go.Proofs.YtheafiaemcmjaaaDoor
open Go.ChangeShapes Go.WideShapes Go.ChangeAt Go.RowKit
theorem grown_far {a w w' : World} {b : Nat} {row : Option Nat} (h : a.grownBy w (some b)) (hg : w.grownBy w' row) (hr : ∀ k, row = some k → a.heap.size ≤ k) : a.grownBy w' (some b) :=
  ⟨hg.os.trans h.os, hg.tape.trans h.tape, hg.output.trans h.output, Nat.le_trans h.size hg.size, fun i hi hne => (hg.block i (Nat.lt_of_lt_of_le hi h.size) (fun e => by have := hr i e.symm; omega)).trans (h.block i hi hne)⟩
theorem rowShape {w : World} {base e m n : Nat} {v : Value} {xs : List Value} (h : w.ownsRow base e m v n xs) : ∃ A c, v = .slice A n c := by
  rcases h.2 with ⟨h', hn⟩ | ⟨g', cap', cur, h', _⟩
  · exact ⟨none, 0, by rw [hn]; exact h'⟩
  · exact ⟨_, _, h'⟩
theorem quilt_mk {W H M : Nat} {f : Nat → Nat → Int} (W1 : 1 ≤ W) (W4 : W ≤ 4) (H1 : 1 ≤ H) (H4 : H ≤ 4) (hM : (M : Int) = (W : Int) * (H : Int)) (h : ∀ i, i < M → 0 ≤ f i 0 ∧ f i 0 ≤ 5 ∧ 0 ≤ f i 1 ∧ f i 1 ≤ 7) : quiltOk W H M f = true := by
  have a : inB (W : Int) 1 6 = true := by unfold inB; simp; omega
  have b : inB (H : Int) 1 6 = true := by unfold inB; simp; omega
  have d : allTo (fun k => spotOk (f k)) M = true := by
    rw [allTo_iff]
    intro i hi
    have hb := h i hi
    unfold spotOk inB
    simp
    omega
  unfold quiltOk
  rw [a, b, d, decide_eq_true hM]
  rfl
theorem info_blockD : (Tryd.prog.info? 46).map (fun i => (i.zero, i.size, i.bytes)) = some (some (.agg #[.int .i64 0, .slice none 0 0]), 2, 32) := by kernel_rfl
set_option maxRecDepth 100000 in
set_option maxHeartbeats 8000000 in
theorem blocks_drawn (b : Nat) (A : Option Addr) (n c : Nat) (zs : List Int) (B : Nat) (w : World) (hr : RowI .u8 w B A n c zs) (hB : B ≤ b) (hbw : b < w.heap.size) (hn : n ≤ 1048576) (hc : CurAt w b A n c) :
    Calls Tryd.prog 58 #[.pointer (some ⟨b, 0, none⟩)] w fun e w' => ∃ K : Nat, 1 ≤ K ∧ K ≤ 3 ∧ (∃ (A2 : Option Addr) (c2 : Nat), e = .returned (.slice A2 K c2)) ∧ CurAt w' b A n c ∧ w.grownBy w' (some b) := by
  have hrg : Hid (∀ w', w.grownBy w' (some b) → RowI .u8 w' B A n c zs) := Lib.hid fun w' hg => hr.keep fun p hp => (grown_below hg hB (by omega)).cell hp
  obtain ⟨w0, hw0⟩ : ∃ w0, w0 = w.alloc (.cells #[] 46) := ⟨_, rfl⟩
  have ho0 : w0.ownsRow w.heap.size 46 2 (.slice (some ⟨w.heap.size, 0, none⟩) 0 0) 0 [] := by rw [hw0]; exact World.ownsRow_lit w #[] 0 (Nat.le_refl _) (Nat.zero_le _) rfl
  have hg0 : w.grownBy w0 (some b) := by rw [hw0]; exact World.grownBy_alloc w _ (some b)
  have hc0 : CurAt w0 b A n c := by rw [hw0]; exact cur_alloc hc _
  go_enter Tryd.func58, Tryd.ntmps58
  go_wp2_with fail
  rw [← hw0]
  clear hw0
  have z0 := hg0.size
  refine (below_any 3 b A n c zs B w0 (hrg.out w0 hg0) hB (by omega) hn hc0 (by omega) (by omega)).mono ?_
  rintro e w1 ⟨v1, hv1, rfl, hc1, hg1⟩
  have hgA := cur_grown_trans hg0 hg1
  have ho1 := row_keep ho0 fun k hk => hg1.block k (World.ownsRow.lt ho0 k hk).2 (by have := (World.ownsRow.lt ho0 k hk).1; simp; omega)
  obtain ⟨K, hK⟩ : ∃ K : Nat, K = v1 + 1 := ⟨_, rfl⟩
  have t1 : (1 : Int) + (v1 : Int) = (K : Int) := by omega
  have t2 : IntKind.i64.wrap (1 + (v1 : Int)) = (K : Int) := by rw [IntWalk.i64_in _ (by omega)]; omega
  have K1 : 1 ≤ K := by omega
  have K3 : K ≤ 3 := by omega
  clear hK hv1 hg0 hg1 hc0 ho0
  go_wp2_with fail
  clear t1 t2
  have z1 := hgA.size
  refine (below_any 3 b A n c zs B w1 (hrg.out w1 hgA) hB (by omega) hn hc1 (by omega) (by omega)).mono ?_
  rintro e w2 ⟨v2, hv2, rfl, hc2, hg2⟩
  have hgB := cur_grown_trans hgA hg2
  have ho2 := row_keep ho1 fun k hk => hg2.block k (World.ownsRow.lt ho1 k hk).2 (by have := (World.ownsRow.lt ho1 k hk).1; simp; omega)
  obtain ⟨S, hS⟩ : ∃ S : Nat, S = v2 + 1 := ⟨_, rfl⟩
  have t1 : (1 : Int) + (v2 : Int) = (S : Int) := by omega
  have t2 : IntKind.i64.wrap (1 + (v2 : Int)) = (S : Int) := by rw [IntWalk.i64_in _ (by omega)]; omega
  have S1 : 1 ≤ S := by omega
  have S3 : S ≤ 3 := by omega
  obtain ⟨M, hM⟩ : ∃ M, M = S * S := ⟨_, rfl⟩
  have M9 : 1 ≤ M ∧ M ≤ 9 := by rcases (by omega : S = 1 ∨ S = 2 ∨ S = 3) with e | e | e <;> subst e <;> omega
  have mm : (S : Int) * (S : Int) = (M : Int) := by rw [hM]; simp
  have mw : IntKind.i64.wrap ((S : Int) * (S : Int)) = (M : Int) := by rw [mm]; exact IntWalk.i64_in _ (by omega)
  clear hS hv2 hgA hg2 hc1 ho1 hM z1
  go_wp2_with fail
  clear t1 t2
  go_loopw [3, 6] (fun ov kv wr => ∃ (i : Nat) (A2 : Option Addr) (c2 : Nat) (xs : List Value), i ≤ K ∧ kv = .int .i64 i ∧ ov = .slice A2 i c2 ∧ wr.ownsRow w.heap.size 46 2 (.slice A2 i c2) i xs ∧ CurAt wr b A n c ∧ w.grownBy wr (some b)) (fun _ kv _ => K - (intOf kv).toNat)
  case atStart => exact ⟨0, _, _, [], by omega, rfl, rfl, ho2, hc2, hgB⟩
  case round =>
    clear ho2 hc2 hgB
    obtain ⟨i, A2, c2, xs, hi, rfl, rfl, ho, hcu, hg⟩ := hrel
    rename World => W1
    have hz := hg.size
    by_cases hlt : i < K
    · have i0 : (0 : Int) ≤ (i : Int) := by omega
      have i3 : (i : Int) < (K : Int) := by omega
      obtain ⟨g1, hg1⟩ : ∃ g1, g1 = W1.heap.size := ⟨_, rfl⟩
      obtain ⟨w3, hw3⟩ : ∃ w3, w3 = W1.alloc (.cells #[.int .i64 S, .slice none 0 0] 46) := ⟨_, rfl⟩
      have G1 : w3.heap[g1]? = some (.cells #[.int .i64 S, .slice none 0 0] 46 (0, 0)) := by rw [hw3, hg1]; exact heap_alloc_new W1 _
      have hc3 : CurAt w3 b A n c := by rw [hw3]; exact cur_alloc hcu _
      have hg3 : W1.grownBy w3 (some b) := by rw [hw3]; exact World.grownBy_alloc W1 _ (some b)
      have z3 : g1 + 1 ≤ w3.heap.size := by rw [hw3, hg1]; simp
      have gb : g1 ≠ b := by omega
      have HG1 := Lib.hid (show W1.heap.size ≤ g1 by omega)
      have HBG := Lib.hid (show b < g1 by omega)
      have HGR := Lib.hid (show ∀ w', W1.grownBy w' (some b) → RowI .u8 w' B A n c zs from fun w' h => hrg.out w' (cur_grown_trans hg h))
      go_wp2_with fail
      rw [← hw3, ← hg1]
      clear hw3 hg1
      go_loopw [8] (fun jv wx => ∃ (j : Nat) (A3 : Option Addr) (c3 : Nat) (f : Nat → Nat → Int), j ≤ M ∧ jv = .int .i64 j ∧ wx.heap[g1]? = some (.cells #[.int .i64 S, .slice A3 j c3] 46 (0, 0)) ∧ OwnS 3 23 wx (g1 + 1) (.slice A3 j c3) j f ∧ CurAt wx b A n c ∧ W1.grownBy wx (some b) ∧ g1 + 1 ≤ wx.heap.size) (fun jv _ => M - (intOf jv).toNat)
      case atStart => exact ⟨0, none, 0, fun _ _ => 0, by omega, rfl, G1, ownS_nil _ _ _ _ _, hc3, hg3, z3⟩
      case round =>
        clear G1 hc3 hg3 z3
        obtain ⟨j, A3, c3, f, hj, rfl, G1, hown, hcx, hgx, hzx⟩ := hrel
        by_cases hkm : j < M
        · have k0 : (0 : Int) ≤ (j : Int) := by omega
          have k3 : (j : Int) < (M : Int) := by omega
          go_wp2_with fail
          refine (cell_drawn b A n c zs B wr (HGR.out wr hgx) hB (by have := HBG.out; omega) hn hcx).mono ?_
          rintro e w4 ⟨x, hx, rfl, hc4, hg4⟩
          have H1 := blk_alloc (blk_grown G1 hg4 gb) (.cells #[.int .i64 (x 0), .int .i64 (x 1), .int .i64 (x 2)] 23)
          have z4 := hg4.size
          have hgy := grown_alloc (cur_grown_trans hgx hg4) (.cells #[.int .i64 (x 0), .int .i64 (x 1), .int .i64 (x 2)] 23)
          have ho4 := (ownS_grown hown hg4 (by have := HBG.out; omega)).alloc (.cells #[.int .i64 (x 0), .int .i64 (x 1), .int .i64 (x 2)] 23)
          have hc5 := cur_alloc hc4 (.cells #[.int .i64 (x 0), .int .i64 (x 1), .int .i64 (x 2)] 23)
          have zl : g1 < w4.heap.size := by omega
          have zn : g1 ≠ w4.heap.size := by omega
          have v1 : w4.cell? ⟨g1, 1, none⟩ = some (.slice A3 j c3) := by rw [blk_cell (blk_grown G1 hg4 gb) 1]; rfl
          have f1 : w4.frozen? ⟨g1, 1, none⟩ = false := blk_frozen (blk_grown G1 hg4 gb)
          clear hown G1 hcx hc4 hg4 hx hgx
          go_wp2_with (at_builtin; refine appS_grown Tryd.underlying44 info_cellD rfl (by decide) (by decide) rfl _ _ rfl (g1 + 1) j _ f x (w4.heap.size + 1) rfl (ho4.alloc _) rfl #[.int .i64 (x 0), .int .i64 (x 1), .int .i64 (x 2)] rfl (by exact (by simp : (w4.alloc _).heap.size = w4.heap.size + 1) ▸ heap_alloc_new (w4.alloc _) _) (by omega) (by simp; omega) ?_; intro A6 c6 w6 ho6 hg6; have G6 := row_far hg6 ho4 (blk_alloc H1 _); have t0 : w6.cell? ⟨g1, 1, none⟩ = some (.slice A3 j c3) := (by rw [blk_cell G6 1]; rfl); have t1 : w6.frozen? ⟨g1, 1, none⟩ = false := blk_frozen G6)
          have G7' : (w6.setCell ⟨g1, 1, none⟩ (.slice A6 (j + 1) c6)).heap[g1]? = some (.cells #[.int .i64 S, .slice A6 (j + 1) c6] 46 (0, 0)) := by simpa using heap_setCell_same w6 g1 1 _ _ (.slice A6 (j + 1) c6) G6
          have ho7 := ho6.setOther (p := ⟨g1, 1, none⟩) (x := .slice A6 (j + 1) c6) (fun q hq => by have := (World.ownsRow.lt ho6 q hq).1; show g1 ≠ q; omega)
          have hcc : CurAt w6 b A n c := by
            obtain ⟨ii, xx, hi, hh⟩ := cur_alloc hc5 (.cells #[.int .i64 (x 0), .int .i64 (x 1), .int .i64 (x 2)] 23)
            exact ⟨ii, xx, hi, row_far hg6 ho4 hh (by have := HBG.out; omega)⟩
          have hc7 := cur_set hcc (p := ⟨g1, 1, none⟩) (fun e => gb e.symm) (.slice A6 (j + 1) c6)
          have hg7 := grown_set (grown_far (grown_alloc hgy (.cells #[.int .i64 (x 0), .int .i64 (x 1), .int .i64 (x 2)] 23)) hg6 (fun q hq => by have := (World.ownsRow.lt ho4 q hq).1; have := HG1.out; omega)) (p := ⟨g1, 1, none⟩) HG1.out (.slice A6 (j + 1) c6)
          have z9 : g1 + 1 ≤ (w6.setCell ⟨g1, 1, none⟩ (.slice A6 (j + 1) c6)).heap.size := by have := hg6.size; simp [World.setCell] at this ⊢; omega
          clear H1 ho4 hc5 hg6 G6 t0 t1 ho6 hcc v1 f1 hgy
          go_roundw
          case rel => exact ⟨j + 1, A6, c6, _, by omega, by go_num, G7', ho7, hc7, hg7, z9⟩
          case measure => simp [intOf]; omega
        · obtain rfl : j = M := by omega
          have k3 : ¬ (j : Int) < (j : Int) := by omega
          have x0 : wr.cell? ⟨g1, 0, none⟩ = some (.int .i64 S) := by rw [blk_cell G1 0]; rfl
          have x1 : wr.cell? ⟨g1, 1, none⟩ = some (.slice A3 j c3) := by rw [blk_cell G1 1]; rfl
          have hor := row_keep ho fun k hk => hgx.block k (World.ownsRow.lt ho k hk).2 (by have := (World.ownsRow.lt ho k hk).1; simp; omega)
          have hgt := cur_grown_trans hg hgx
          have zt := hgt.size
          obtain ⟨i9, hi9, hz0, hz1, hz2⟩ := info_parts info_blockD
          have HI9 := Lib.hid hi9
          have HZ0 := Lib.hid hz0
          have HZ1 := Lib.hid hz1
          have HZ2 := Lib.hid hz2
          clear G1 hown hi9 hz0 hz1 hz2
          go_wp2_with (at_builtin; refine wpList_append_own (wr.alloc (.cells #[.int .i64 S, .slice A3 j c3] 46)) rfl _ _ 59 rfl w.heap.size 46 i9 (.agg #[.int .i64 0, .slice none 0 0]) 2 32 Tryd.underlying59 HI9.out HZ0.out HZ1.out HZ2.out rfl (by decide) _ i xs rfl (World.ownsRow.alloc hor _) ⟨wr.heap.size, 0, none⟩ 1 1 [.int .i64 S, .slice A3 j c3] rfl rfl (World.news_of_block (cs := #[.int .i64 S, .slice A3 j c3]) (heap_alloc_new wr _)) (by simp [Value.oneCell']) (by unfold maxLen; omega) (by omega) (by simp; omega) ?_; intro v6 w6 h6 hg6 _)
          obtain ⟨A6, c6, e6⟩ := rowShape h6
          subst e6
          have hg7 := grown_far (grown_alloc hgt (.cells #[.int .i64 S, .slice A3 j c3] 46)) hg6 (fun q hq => (World.ownsRow.lt hor q hq).1)
          have hc7 : CurAt w6 b A n c := by
            obtain ⟨ii, xx, hi, hh⟩ := cur_alloc hcx (.cells #[.int .i64 S, .slice A3 j c3] 46)
            exact ⟨ii, xx, hi, (hg6.block b (blk_lt hh) (fun e => by have := (World.ownsRow.lt hor b e.symm).1; omega)).trans hh⟩
          clear hor hgt hg6 x0 x1 ho hg
          go_wp2
          go_roundw
          case rel => exact ⟨i + 1, A6, c6, _, by omega, by go_num, rfl, h6, hc7, hg7⟩
          case measure => simp [intOf]; omega
    · obtain rfl : i = K := by omega
      have i3 : ¬ (i : Int) < (i : Int) := by omega
      go_wp2
      go_ret
      exact ⟨i, K1, K3, ⟨A2, c2, rfl⟩, hcu, hg⟩
theorem info_spotD : (Tryd.prog.info? 64).map (fun i => (i.zero, i.size, i.bytes)) = some (some (.agg #[.int .i64 0, .int .i64 0]), 2, 16) := by kernel_rfl
def QuiPost (b : Nat) (w : World) (e : Ending) (w' : World) : Prop := ∃ (W H M : Nat) (g cN : Nat) (f : Nat → Nat → Int), e = .returned (.agg #[.int .i64 W, .int .i64 H, .slice (some ⟨g, 0, none⟩) M cN]) ∧ quiltOk W H M f = true ∧ OwnS 2 64 w' w.heap.size (.slice (some ⟨g, 0, none⟩) M cN) M f ∧ w.grownBy w' (some b)
def DrQPost (w : World) (e : Ending) (w' : World) : Prop := ∃ (W H M : Nat) (g cN : Nat) (f : Nat → Nat → Int) (K : Nat) (A2 : Option Addr) (c2 : Nat), e = .returned (.tuple #[.agg #[.int .i64 W, .int .i64 H, .slice (some ⟨g, 0, none⟩) M cN], .slice A2 K c2]) ∧ 1 ≤ K ∧ quiltOk W H M f = true ∧ OwnS 2 64 w' w.heap.size (.slice (some ⟨g, 0, none⟩) M cN) M f ∧ Below w.heap.size w w'
def two2 (a b : Int) : Nat → Int
  | 0 => a
  | _ => b
set_option maxRecDepth 100000 in
set_option maxHeartbeats 8000000 in
theorem quilt_drawn (m b : Nat) (A : Option Addr) (n c : Nat) (zs : List Int) (B : Nat) (w : World) (hr : RowI .u8 w B A n c zs) (hB : B ≤ b) (hbw : b < w.heap.size) (hn : n ≤ 1048576) (hc : CurAt w b A n c) (m1 : 1 ≤ m) (m3 : m ≤ 3) :
    Calls Tryd.prog 59 #[.pointer (some ⟨b, 0, none⟩), .int .i64 m] w (QuiPost b w) := by
  have hrg : Hid (∀ w', w.grownBy w' (some b) → RowI .u8 w' B A n c zs) := Lib.hid fun w' hg => hr.keep fun p hp => (grown_below hg hB (by omega)).cell hp
  obtain ⟨r, hr0⟩ : ∃ r, r = w.heap.size := ⟨_, rfl⟩
  obtain ⟨w0, hw0⟩ : ∃ w0, w0 = w.alloc (.cells #[.int .i64 0, .int .i64 0, .slice none 0 0] 35) := ⟨_, rfl⟩
  have GR0 : w0.heap[r]? = some (.cells #[.int .i64 0, .int .i64 0, .slice none 0 0] 35 (0, 0)) := by rw [hw0, hr0]; exact heap_alloc_new w _
  have hg0 : w.grownBy w0 (some b) := by rw [hw0]; exact World.grownBy_alloc w _ (some b)
  have hc0 : CurAt w0 b A n c := by rw [hw0]; exact cur_alloc hc _
  have z0 : r + 1 ≤ w0.heap.size := by rw [hw0, hr0]; simp
  have HR0 := Lib.hid hr0
  have hbr : b < r := by omega
  go_enter Tryd.func59, Tryd.ntmps59
  go_wp2_with fail
  rw [← hw0, ← hr0]
  clear hw0 hr0 hr hc
  refine (below_any 4 b A n c zs B w0 (hrg.out w0 hg0) hB (by omega) hn hc0 (by omega) (by omega)).mono ?_
  rintro e w1 ⟨v1, hv1, rfl, hc1, hg1⟩
  have GR1 := blk_grown GR0 hg1 (by omega)
  have hgA := cur_grown_trans hg0 hg1
  have z1 := Nat.le_trans z0 hg1.size
  obtain ⟨W, hW⟩ : ∃ S : Nat, S = v1 + 1 := ⟨_, rfl⟩
  have t1 : (1 : Int) + (v1 : Int) = (W : Int) := by omega
  have t2 : IntKind.i64.wrap (1 + (v1 : Int)) = (W : Int) := by rw [IntWalk.i64_in _ (by omega)]; omega
  have W1 : 1 ≤ W := by omega
  have W4 : W ≤ 4 := by omega
  clear hW hv1 hg0 hg1 hc0 GR0 z0
  go_wp2_with fail
  clear t1 t2
  refine (below_any 4 b A n c zs B w1 (hrg.out w1 hgA) hB (by omega) hn hc1 (by omega) (by omega)).mono ?_
  rintro e w2 ⟨v2, hv2, rfl, hc2, hg2⟩
  have GR2 := blk_grown GR1 hg2 (by omega)
  have hgB := cur_grown_trans hgA hg2
  have z2 := Nat.le_trans z1 hg2.size
  obtain ⟨H, hH⟩ : ∃ S : Nat, S = v2 + 1 := ⟨_, rfl⟩
  have t1 : (1 : Int) + (v2 : Int) = (H : Int) := by omega
  have t2 : IntKind.i64.wrap (1 + (v2 : Int)) = (H : Int) := by rw [IntWalk.i64_in _ (by omega)]; omega
  have H1 : 1 ≤ H := by omega
  have H4 : H ≤ 4 := by omega
  obtain ⟨M, hM⟩ : ∃ M, M = W * H := ⟨_, rfl⟩
  have M16 : 1 ≤ M ∧ M ≤ 16 := by rcases (by omega : W = 1 ∨ W = 2 ∨ W = 3 ∨ W = 4) with e | e | e | e <;> subst e <;> omega
  have mm : (W : Int) * (H : Int) = (M : Int) := by rw [hM]; simp
  have mw : IntKind.i64.wrap ((W : Int) * (H : Int)) = (M : Int) := by rw [mm]; exact IntWalk.i64_in _ (by omega)
  have HM := Lib.hid mm
  obtain ⟨q, hq⟩ : ∃ q, q = w2.heap.size := ⟨_, rfl⟩
  obtain ⟨w3, hw3⟩ : ∃ w3, w3 = w2.alloc (.cells #[.int .i64 W, .int .i64 H, .slice none 0 0] 35) := ⟨_, rfl⟩
  have GQ3 : w3.heap[q]? = some (.cells #[.int .i64 W, .int .i64 H, .slice none 0 0] 35 (0, 0)) := by rw [hw3, hq]; exact heap_alloc_new w2 _
  have GR3 : w3.heap[r]? = some (.cells #[.int .i64 0, .int .i64 0, .slice none 0 0] 35 (0, 0)) := by rw [hw3]; exact blk_alloc GR2 _
  have hg3 : w.grownBy w3 (some b) := by rw [hw3]; exact grown_alloc hgB _
  have hc3 : CurAt w3 b A n c := by rw [hw3]; exact cur_alloc hc2 _
  have z3 : q + 1 ≤ w3.heap.size := by rw [hw3, hq]; simp
  have hrq : r < q := by omega
  clear hH hv2 hgA hgB hg2 hc1 hc2 GR1 GR2 z1 z2 hM
  go_wp2_with fail
  rw [← hw3, ← hq]
  clear t1 t2 hw3 hq
  refine (once_any 3 b A n c zs B w3 (hrg.out w3 hg3) hB (by omega) hn hc3 (by omega) (by omega)).mono ?_
  rintro e w4 ⟨same, rfl, hc4, hg4⟩
  have GR4 := blk_grown GR3 hg4 (by omega)
  have GQ4 := blk_grown GQ3 hg4 (by omega)
  have hgC := cur_grown_trans hg3 hg4
  have z4 := Nat.le_trans z3 hg4.size
  clear GR3 GQ3 hg3 hg4 hc3 z3
  go_wp2_with fail
  go_loopw [7] (fun kv wr => ∃ (k : Nat) (A2 : Option Addr) (c2 : Nat) (f : Nat → Nat → Int), k ≤ M ∧ kv = .int .i64 k ∧ wr.heap[r]? = some (.cells #[.int .i64 0, .int .i64 0, .slice none 0 0] 35 (0, 0)) ∧ wr.heap[q]? = some (.cells #[.int .i64 W, .int .i64 H, .slice A2 k c2] 35 (0, 0)) ∧ OwnS 2 64 wr (q + 1) (.slice A2 k c2) k f ∧ Hid (∀ i, i < k → 0 ≤ f i 0 ∧ f i 0 ≤ 5 ∧ 0 ≤ f i 1 ∧ f i 1 ≤ 7) ∧ CurAt wr b A n c ∧ w.grownBy wr (some b) ∧ q + 1 ≤ wr.heap.size) (fun kv _ => M - (intOf kv).toNat)
  case atStart => exact ⟨0, none, 0, fun _ _ => 0, by omega, rfl, GR4, GQ4, ownS_nil _ _ _ _ _, Lib.hid (fun i hi => by omega), hc4, hgC, z4⟩
  case round =>
    clear GR4 GQ4 hc4 hgC z4
    obtain ⟨k, A2, c2, f, hk, rfl, GR, GQ, hown, HOK, hcu, hg, hz⟩ := hrel
    have qb : q ≠ b := by omega
    have u0 : wr.cell? ⟨q, 0, none⟩ = some (.int .i64 W) := by rw [blk_cell GQ 0]; rfl
    have u1 : wr.cell? ⟨q, 1, none⟩ = some (.int .i64 H) := by rw [blk_cell GQ 1]; rfl
    have u2 : wr.cell? ⟨q, 2, none⟩ = some (.slice A2 k c2) := by rw [blk_cell GQ 2]; rfl
    have hqw : q < wr.heap.size := by omega
    by_cases hlt : k < M
    · have k0 : (0 : Int) ≤ (k : Int) := by omega
      have k3 : (k : Int) < (M : Int) := by omega
      go_wp2_with fail
      clear u0 u1 u2
      refine (below_any m b A n c zs B wr (hrg.out wr hg) hB (by have := hg.size; omega) hn hcu (by omega) (by omega)).mono ?_
      rintro e w5 ⟨a1, ha1, rfl, hc5, hg5⟩
      have hg6 := cur_grown_trans hg hg5
      have GR5 := blk_grown GR hg5 (by omega)
      have GQ5 := blk_grown GQ hg5 qb
      have ho5 := ownS_grown hown hg5 (by omega)
      have z5 := Nat.le_trans hz hg5.size
      clear hown GR GQ hcu hg hg5 hz
      go_wp2_with fail
      refine (below_any 8 b A n c zs B w5 (hrg.out w5 hg6) hB (by have := hg6.size; omega) hn hc5 (by omega) (by omega)).mono ?_
      rintro e w6 ⟨a2, ha2, rfl, hc6, hg7⟩
      have hg8 := cur_grown_trans hg6 hg7
      have GR6 := blk_grown GR5 hg7 (by omega)
      have GQ6 := blk_grown GQ5 hg7 qb
      have ho6 := ownS_grown ho5 hg7 (by omega)
      have z6 := Nat.le_trans z5 hg7.size
      have hw6 := hg8.size
      clear ho5 GR5 GQ5 hc5 hg6 hg7 z5
      obtain ⟨p0, hp0⟩ : ∃ p, p = k % 2 := ⟨_, rfl⟩
      obtain ⟨p1, hp1⟩ : ∃ p, p = p0 % m := ⟨_, rfl⟩
      have hp2 : p0 ≤ 1 := by omega
      have hp3 : p1 ≤ 1 := by rw [hp1]; exact Nat.le_trans (Nat.mod_le _ _) hp2
      have s1 : (k : Int).tmod 2 = (p0 : Int) := by rw [Int.tmod_eq_emod_of_nonneg (by omega)]; omega
      have s2 : (k : Int) % 2 = (p0 : Int) := by omega
      have s3 : (p0 : Int).tmod (m : Int) = (p1 : Int) := by rw [hp1, Int.tmod_eq_emod_of_nonneg (by omega)]; rfl
      have s4 : (p0 : Int) % (m : Int) = (p1 : Int) := by rw [hp1]; rfl
      have s5 : ((m : Int) == 0) = false := beq_eq_false_iff_ne.2 (by omega)
      have s6 : ¬ m = 0 := by omega
      clear hp0 hp1
      have bne6 : q ≠ w6.heap.size := by omega
      have blt6 : q < w6.heap.size := by omega
      have y1 : w6.cell? ⟨q, 2, none⟩ = some (.slice A2 k c2) := by rw [blk_cell GQ6 2]; rfl
      have f1 : w6.frozen? ⟨q, 2, none⟩ = false := blk_frozen GQ6
      cases same
      · have hbd : 0 ≤ (a1 : Int) ∧ (a1 : Int) ≤ 5 ∧ 0 ≤ (a2 : Int) ∧ (a2 : Int) ≤ 7 := by omega
        have HBD := Lib.hid hbd
        have H1 := blk_alloc GQ6 (.cells #[.int .i64 (a1 : Int), .int .i64 (a2 : Int)] 64)
        have H0 := blk_alloc GR6 (.cells #[.int .i64 (a1 : Int), .int .i64 (a2 : Int)] 64)
        have ho7 := ho6.alloc (.cells #[.int .i64 (a1 : Int), .int .i64 (a2 : Int)] 64)
        have hc7 := cur_alloc hc6 (.cells #[.int .i64 (a1 : Int), .int .i64 (a2 : Int)] 64)
        have hg9 := grown_alloc hg8 (.cells #[.int .i64 (a1 : Int), .int .i64 (a2 : Int)] 64)
        clear GQ6 GR6 ho6 hc6 hg8 hbd
        go_wp2_with (at_builtin; refine appS_grown Tryd.underlying33 info_spotD rfl (by decide) (by decide) rfl _ _ rfl (q + 1) k _ f (two2 (a1 : Int) (a2 : Int)) (w6.heap.size + 1) rfl (ho7.alloc _) rfl #[.int .i64 (a1 : Int), .int .i64 (a2 : Int)] rfl (by exact (by simp : (w6.alloc _).heap.size = w6.heap.size + 1) ▸ heap_alloc_new (w6.alloc _) _) (by omega) (by simp; omega) ?_; intro A8 c8 w8 ho8 hgz; have G8 := row_far hgz ho7 (blk_alloc H1 _); have t0 : w8.cell? ⟨q, 2, none⟩ = some (.slice A2 k c2) := (by rw [blk_cell G8 2]; rfl); have t1 : w8.frozen? ⟨q, 2, none⟩ = false := blk_frozen G8)
        have G9 : (w8.setCell ⟨q, 2, none⟩ (.slice A8 (k + 1) c8)).heap[q]? = some (.cells #[.int .i64 W, .int .i64 H, .slice A8 (k + 1) c8] 35 (0, 0)) := by simpa using heap_setCell_same w8 q 2 _ _ (.slice A8 (k + 1) c8) G8
        have G10 := blk_set (row_far hgz ho7 (blk_alloc H0 (.cells #[.int .i64 (a1 : Int), .int .i64 (a2 : Int)] 64))) (p := ⟨q, 2, none⟩) (show r ≠ q by omega) (.slice A8 (k + 1) c8)
        have ho9 := ho8.setOther (p := ⟨q, 2, none⟩) (x := .slice A8 (k + 1) c8) (fun t ht => by have := (World.ownsRow.lt ho8 t ht).1; show q ≠ t; omega)
        have hcc : CurAt w8 b A n c := by
          obtain ⟨ii, xx, hi, hh⟩ := cur_alloc hc7 (.cells #[.int .i64 (a1 : Int), .int .i64 (a2 : Int)] 64)
          exact ⟨ii, xx, hi, row_far hgz ho7 hh (by omega)⟩
        have hc9 := cur_set hcc (p := ⟨q, 2, none⟩) (fun e => qb e.symm) (.slice A8 (k + 1) c8)
        have hgy := grown_set (grown_far (grown_alloc hg9 (.cells #[.int .i64 (a1 : Int), .int .i64 (a2 : Int)] 64)) hgz (fun t ht => by have := (World.ownsRow.lt ho7 t ht).1; have := HR0.out; omega)) (p := ⟨q, 2, none⟩) (by have := HR0.out; show w.heap.size ≤ q; omega) (.slice A8 (k + 1) c8)
        have z9 : q + 1 ≤ (w8.setCell ⟨q, 2, none⟩ (.slice A8 (k + 1) c8)).heap.size := by have := hgz.size; simp [World.setCell] at this ⊢; omega
        have HOK2 := Lib.hid (show ∀ i, i < k + 1 → 0 ≤ updS f k (two2 (a1 : Int) (a2 : Int)) i 0 ∧ updS f k (two2 (a1 : Int) (a2 : Int)) i 0 ≤ 5 ∧ 0 ≤ updS f k (two2 (a1 : Int) (a2 : Int)) i 1 ∧ updS f k (two2 (a1 : Int) (a2 : Int)) i 1 ≤ 7 by
          intro i hi
          rcases (by omega : i < k ∨ i = k) with s | rfl
          · rw [updS_lt s]; exact HOK.out i s
          · rw [updS_eq]; exact HBD.out)
        clear H0 H1 hc7 hgz G8 t0 t1 ho7 ho8 hcc y1 f1 hg9
        go_wp2
        go_roundw
        case rel => exact ⟨k + 1, A8, c8, _, by omega, by go_num, G10, G9, ho9, HOK2, hc9, hgy, z9⟩
        case measure => simp [intOf]; omega
      · have hbd : 0 ≤ (p1 : Int) ∧ (p1 : Int) ≤ 5 ∧ 0 ≤ (p0 : Int) ∧ (p0 : Int) ≤ 7 := by omega
        have HBD := Lib.hid hbd
        have H1 := blk_alloc GQ6 (.cells #[.int .i64 (p1 : Int), .int .i64 (p0 : Int)] 64)
        have H0 := blk_alloc GR6 (.cells #[.int .i64 (p1 : Int), .int .i64 (p0 : Int)] 64)
        have ho7 := ho6.alloc (.cells #[.int .i64 (p1 : Int), .int .i64 (p0 : Int)] 64)
        have hc7 := cur_alloc hc6 (.cells #[.int .i64 (p1 : Int), .int .i64 (p0 : Int)] 64)
        have hg9 := grown_alloc hg8 (.cells #[.int .i64 (p1 : Int), .int .i64 (p0 : Int)] 64)
        clear GQ6 GR6 ho6 hc6 hg8 hbd
        go_wp2_with (at_builtin; refine appS_grown Tryd.underlying33 info_spotD rfl (by decide) (by decide) rfl _ _ rfl (q + 1) k _ f (two2 (p1 : Int) (p0 : Int)) (w6.heap.size + 1) rfl (ho7.alloc _) rfl #[.int .i64 (p1 : Int), .int .i64 (p0 : Int)] rfl (by exact (by simp : (w6.alloc _).heap.size = w6.heap.size + 1) ▸ heap_alloc_new (w6.alloc _) _) (by omega) (by simp; omega) ?_; intro A8 c8 w8 ho8 hgz; have G8 := row_far hgz ho7 (blk_alloc H1 _); have t0 : w8.cell? ⟨q, 2, none⟩ = some (.slice A2 k c2) := (by rw [blk_cell G8 2]; rfl); have t1 : w8.frozen? ⟨q, 2, none⟩ = false := blk_frozen G8)
        have G9 : (w8.setCell ⟨q, 2, none⟩ (.slice A8 (k + 1) c8)).heap[q]? = some (.cells #[.int .i64 W, .int .i64 H, .slice A8 (k + 1) c8] 35 (0, 0)) := by simpa using heap_setCell_same w8 q 2 _ _ (.slice A8 (k + 1) c8) G8
        have G10 := blk_set (row_far hgz ho7 (blk_alloc H0 (.cells #[.int .i64 (p1 : Int), .int .i64 (p0 : Int)] 64))) (p := ⟨q, 2, none⟩) (show r ≠ q by omega) (.slice A8 (k + 1) c8)
        have ho9 := ho8.setOther (p := ⟨q, 2, none⟩) (x := .slice A8 (k + 1) c8) (fun t ht => by have := (World.ownsRow.lt ho8 t ht).1; show q ≠ t; omega)
        have hcc : CurAt w8 b A n c := by
          obtain ⟨ii, xx, hi, hh⟩ := cur_alloc hc7 (.cells #[.int .i64 (p1 : Int), .int .i64 (p0 : Int)] 64)
          exact ⟨ii, xx, hi, row_far hgz ho7 hh (by omega)⟩
        have hc9 := cur_set hcc (p := ⟨q, 2, none⟩) (fun e => qb e.symm) (.slice A8 (k + 1) c8)
        have hgy := grown_set (grown_far (grown_alloc hg9 (.cells #[.int .i64 (p1 : Int), .int .i64 (p0 : Int)] 64)) hgz (fun t ht => by have := (World.ownsRow.lt ho7 t ht).1; have := HR0.out; omega)) (p := ⟨q, 2, none⟩) (by have := HR0.out; show w.heap.size ≤ q; omega) (.slice A8 (k + 1) c8)
        have z9 : q + 1 ≤ (w8.setCell ⟨q, 2, none⟩ (.slice A8 (k + 1) c8)).heap.size := by have := hgz.size; simp [World.setCell] at this ⊢; omega
        have HOK2 := Lib.hid (show ∀ i, i < k + 1 → 0 ≤ updS f k (two2 (p1 : Int) (p0 : Int)) i 0 ∧ updS f k (two2 (p1 : Int) (p0 : Int)) i 0 ≤ 5 ∧ 0 ≤ updS f k (two2 (p1 : Int) (p0 : Int)) i 1 ∧ updS f k (two2 (p1 : Int) (p0 : Int)) i 1 ≤ 7 by
          intro i hi
          rcases (by omega : i < k ∨ i = k) with s | rfl
          · rw [updS_lt s]; exact HOK.out i s
          · rw [updS_eq]; exact HBD.out)
        clear H0 H1 hc7 hgz G8 t0 t1 ho7 ho8 hcc y1 f1 hg9
        go_wp2
        go_roundw
        case rel => exact ⟨k + 1, A8, c8, _, by omega, by go_num, G10, G9, ho9, HOK2, hc9, hgy, z9⟩
        case measure => simp [intOf]; omega
    · obtain rfl : k = M := by omega
      have k3 : ¬ (k : Int) < (k : Int) := by omega
      obtain ⟨g, rfl⟩ := hown.some_ (by omega)
      have HQO := Lib.hid (show quiltOk W H k f = true from quilt_mk W1 W4 H1 H4 HM.out.symm HOK.out)
      have y0 : wr.cell? ⟨r, 0, none⟩ = some (.int .i64 0) := by rw [blk_cell GR 0]; rfl
      have y1 : wr.cell? ⟨r, 1, none⟩ = some (.int .i64 0) := by rw [blk_cell GR 1]; rfl
      have y2 : wr.cell? ⟨r, 2, none⟩ = some (.slice none 0 0) := by rw [blk_cell GR 2]; rfl
      have q0 : wr.frozen? ⟨r, 0, none⟩ = false := blk_frozen GR
      have q1 : wr.frozen? ⟨r, 1, none⟩ = false := blk_frozen GR
      have q2 : wr.frozen? ⟨r, 2, none⟩ = false := blk_frozen GR
      have hne : ∀ (u : World) (j : Nat) (x : Value), OwnS 2 64 u (q + 1) (.slice (some ⟨g, 0, none⟩) k c2) k f → OwnS 2 64 (u.setCell ⟨r, j, none⟩ x) (q + 1) (.slice (some ⟨g, 0, none⟩) k c2) k f := fun u j x h => h.setOther fun t ht => by have := (World.ownsRow.lt h t ht).1; show r ≠ t; omega
      have ho7 := (hne _ 2 (.slice (some ⟨g, 0, none⟩) k c2) (hne _ 1 (.int .i64 H) (hne _ 0 (.int .i64 W) hown))).base_ (show r ≤ q + 1 by omega)
      have hg7 := grown_set (grown_set (grown_set hg (p := ⟨r, 0, none⟩) (by have := HR0.out; show w.heap.size ≤ r; omega) (.int .i64 W)) (p := ⟨r, 1, none⟩) (by have := HR0.out; show w.heap.size ≤ r; omega) (.int .i64 H)) (p := ⟨r, 2, none⟩) (by have := HR0.out; show w.heap.size ≤ r; omega) (.slice (some ⟨g, 0, none⟩) k c2)
      clear GR GQ hown hg hcu hne
      go_wp2
      exact bodyPost_ret (v := .agg #[.int .i64 W, .int .i64 H, .slice (some ⟨g, 0, none⟩) k c2]) (by simp [results, Tryd.results59, go_sem, y0, y1, y2, q0, q1, q2]) rfl ⟨W, H, k, g, c2, f, rfl, HQO.out, by rw [← HR0.out]; exact ho7, hg7⟩
set_option maxRecDepth 100000 in
set_option maxHeartbeats 4000000 in
theorem drawQuilt_any (A : Option Addr) (n c : Nat) (zs : List Int) (w : World) (hr : RowI .u8 w w.heap.size A n c zs) (hn : n ≤ 1048576) :
    Calls Tryd.prog 32 #[.slice A n c] w (DrQPost w) := by
  have G0 : (w.alloc (.cells #[.int .i64 0, .int .i64 0, .slice none 0 0] 35)).heap[w.heap.size]? = some (.cells #[.int .i64 0, .int .i64 0, .slice none 0 0] 35 (0, 0)) := heap_alloc_new w _
  have hb0 : Below w.heap.size w (w.alloc (.cells #[.int .i64 0, .int .i64 0, .slice none 0 0] 35)) := (Below.refl _ _).alloc (Nat.le_refl _) _
  go_enter Tryd.func32, Tryd.ntmps32
  go_wp2_with fail
  obtain ⟨w0, hw0⟩ : ∃ w0, w0 = w.alloc (.cells #[.int .i64 0, .int .i64 0, .slice none 0 0] 35) := ⟨_, rfl⟩
  rw [← hw0] at G0 hb0 ⊢
  have z0 : w0.heap.size = w.heap.size + 1 := by rw [hw0]; simp
  clear hw0
  refine (new_any A n c zs w.heap.size w0 (hr.keep fun p hp => hb0.cell hp) hn).mono ?_
  rintro e w1 ⟨rfl, hc1, hb1, z1⟩
  obtain ⟨b, hb⟩ : ∃ b, b = w0.heap.size := ⟨_, rfl⟩
  have hz1 : b < w1.heap.size := by omega
  have G1 := blk_below G0 hb1 (by omega)
  have hb2 := hb0.trans (hb1.mono (by omega))
  have hbw : w.heap.size < b := by omega
  have hbw' : w.heap.size ≤ b := by omega
  rw [← hb] at hc1 ⊢
  clear G0 hb0 hb1 z1 z0 hb
  go_wp2_with fail
  refine (blocks_drawn b A n c zs w.heap.size w1 (hr.keep fun p hp => hb2.cell hp) hbw' hz1 hn hc1).mono ?_
  rintro e w2 ⟨K, K1, K3, ⟨A2, c2, rfl⟩, hc2, hg2⟩
  have G2 := blk_grown G1 hg2 (by omega)
  have hb3 := hb2.trans (grown_below hg2 hbw' (by omega))
  have z2 := hg2.size
  clear G1 hb2 hg2 hc1
  go_wp2_with fail
  refine (quilt_drawn K b A n c zs w.heap.size w2 (hr.keep fun p hp => hb3.cell hp) hbw' (by omega) hn hc2 K1 K3).mono ?_
  rintro e w3 ⟨W, H, M, g, cN, f, rfl, hQ, ho, hg3⟩
  have G3 := blk_grown G2 hg3 (by omega)
  have hb4 := hb3.trans (grown_below hg3 hbw' (by omega))
  have y0 : w3.cell? ⟨w.heap.size, 0, none⟩ = some (.int .i64 0) := by rw [blk_cell G3 0]; rfl
  have y1 : w3.cell? ⟨w.heap.size, 1, none⟩ = some (.int .i64 0) := by rw [blk_cell G3 1]; rfl
  have y2 : w3.cell? ⟨w.heap.size, 2, none⟩ = some (.slice none 0 0) := by rw [blk_cell G3 2]; rfl
  have q0 : w3.frozen? ⟨w.heap.size, 0, none⟩ = false := blk_frozen G3
  have q1 : w3.frozen? ⟨w.heap.size, 1, none⟩ = false := blk_frozen G3
  have q2 : w3.frozen? ⟨w.heap.size, 2, none⟩ = false := blk_frozen G3
  have hne : ∀ (u : World) (j : Nat) (x : Value), OwnS 2 64 u w2.heap.size (.slice (some ⟨g, 0, none⟩) M cN) M f → OwnS 2 64 (u.setCell ⟨w.heap.size, j, none⟩ x) w2.heap.size (.slice (some ⟨g, 0, none⟩) M cN) M f := fun u j x h => h.setOther fun t ht => by have := (World.ownsRow.lt h t ht).1; show w.heap.size ≠ t; omega
  have ho7 := (hne _ 2 (.slice (some ⟨g, 0, none⟩) M cN) (hne _ 1 (.int .i64 H) (hne _ 0 (.int .i64 W) ho))).base_ (show w.heap.size ≤ w2.heap.size by omega)
  have hb7 := ((hb4.setCell (p := ⟨w.heap.size, 0, none⟩) (Nat.le_refl _) (.int .i64 W)).setCell (p := ⟨w.heap.size, 1, none⟩) (Nat.le_refl _) (.int .i64 H)).setCell (p := ⟨w.heap.size, 2, none⟩) (Nat.le_refl _) (.slice (some ⟨g, 0, none⟩) M cN)
  have HQ := Lib.hid hQ
  clear G2 G3 ho hb3 hb4 hg3 hc2 hne hQ
  go_wp2
  exact bodyPost_ret (v := .tuple #[.agg #[.int .i64 W, .int .i64 H, .slice (some ⟨g, 0, none⟩) M cN], .slice A2 K c2]) (by simp [results, Tryd.results32, go_sem, y0, y1, y2, q0, q1, q2]) rfl ⟨W, H, M, g, cN, f, K, A2, c2, rfl, K1, HQ.out, ho7, hb7⟩
end Go.Proofs.YtheafiaemcmjaaaDoor
