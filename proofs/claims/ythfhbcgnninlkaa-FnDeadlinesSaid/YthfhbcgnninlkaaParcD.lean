/- Contracts of the reference's drawing of parcels: l27Parcel, DrawParcels. -/
import Derived.Test.YthfhbcgnninlkaaCurs
import Derived.Test.YthfhbcgnninlkaaAppS
import Derived.Test.YthfhbcgnninlkaaPureDl
import Derived.Deep.RegionHeld3
namespace Go.Proofs.Ythfhbcgnninlkaa
open Go.ChangeShapes Go.WideShapes Go.ChangeAt Go.RowKit
theorem cur_alloc {w : World} {b n c : Nat} {A : Option Addr} (h : CurAt w b A n c) (o : Obj) : CurAt (w.alloc o) b A n c := by
  obtain ⟨i, x, hi, hh⟩ := h
  exact ⟨i, x, hi, blk_alloc hh o⟩
theorem cur_set {w : World} {b n c : Nat} {A : Option Addr} (h : CurAt w b A n c) {p : Addr} (hne : b ≠ p.block) (u : Value) : CurAt (w.setCell p u) b A n c := by
  obtain ⟨i, x, hi, hh⟩ := h
  exact ⟨i, x, hi, blk_set hh hne u⟩
theorem cur_drew {w : World} {b n c : Nat} {A : Option Addr} (h : CurAt w b A n c) : CurAt w.drew b A n c := h
theorem grown_drewL {a w : World} {row : Option Nat} (h : a.drew.grownBy w row) : a.grownBy w row := ⟨h.os, h.tape, h.output, h.size, h.block⟩
theorem info_parcelD : (Try.prog.info? 42).map (fun i => (i.zero, i.size, i.bytes)) = some (some (.agg #[.int .i64 0, .int .i64 0, .int .i64 0, .int .i64 0]), 4, 32) := by kernel_rfl
set_option maxHeartbeats 4000000 in
theorem parcel_drawn (b : Nat) (A : Option Addr) (n c : Nat) (zs : List Int) (B : Nat) (w : World) (hr : RowI .u8 w B A n c zs) (hB : B ≤ b) (hbw : b < w.heap.size) (hn : n ≤ 1048576) (hc : CurAt w b A n c) :
    Calls Try.prog 74 #[.pointer (some ⟨b, 0, none⟩)] w fun e w' => ∃ q : Nat → Int, e = .returned (.agg #[.int .i64 (q 0), .int .i64 (q 1), .int .i64 (q 2), .int .i64 (q 3)]) ∧ Drawn q ∧ CurAt w' b A n c ∧ w.grownBy w' (some b) := by
  obtain ⟨g0, hg0⟩ : ∃ g0, g0 = w.heap.size := ⟨_, rfl⟩
  have G0 : ∀ cs : Array Value, (w.alloc (.cells cs 42)).heap[g0]? = some (.cells cs 42 (0, 0)) := fun cs => by rw [hg0]; exact heap_alloc_new w _
  have hG := Lib.hid hg0
  have hgw : w.heap.size ≤ g0 := by omega
  have hgb : g0 ≠ b := by omega
  have hz0 : g0 < (w.alloc (.cells #[.int .i64 0, .int .i64 0, .int .i64 0, .int .i64 0] 42)).heap.size := by simp; omega
  have k0 := grown_alloc (World.grownBy.refl w (some b)) (.cells #[.int .i64 0, .int .i64 0, .int .i64 0, .int .i64 0] 42)
  have hc0 := cur_alloc hc (.cells #[.int .i64 0, .int .i64 0, .int .i64 0, .int .i64 0] 42)
  have G1 := G0 #[.int .i64 0, .int .i64 0, .int .i64 0, .int .i64 0]
  clear G0 hg0
  go_enter Try.func74, Try.ntmps74
  go_wp2_with fail
  simp only [← hG.out]
  obtain ⟨w0, hw0⟩ : ∃ w0, w0 = w.alloc (.cells #[.int .i64 0, .int .i64 0, .int .i64 0, .int .i64 0] 42) := ⟨_, rfl⟩
  rw [← hw0] at G1 hc0 k0 hz0 ⊢
  clear hw0
  refine (below_any 4 b A n c zs B w0 (hr.keep fun p hp => World.cell?_of_block (w := w) (k0.block p.block (by omega) (by simp; omega))) hB (by have := k0.size; omega) hn hc0 (by omega) (by omega)).mono ?_
  rintro e w1 ⟨v0, hv0, rfl, hc1, h1⟩
  have k1 := cur_grown_trans k0 h1
  have G2 := blk_grown G1 h1 hgb
  clear G1 h1 hc0 k0 hz0
  go_wp2_with fail
  refine (below_any 6 b A n c zs B w1 (hr.keep fun p hp => World.cell?_of_block (w := w) (k1.block p.block (by omega) (by simp; omega))) hB (by have := k1.size; omega) hn hc1 (by omega) (by omega)).mono ?_
  rintro e w2 ⟨v1, hv1, rfl, hc2, h2⟩
  have k2 := cur_grown_trans k1 h2
  have G3 := blk_grown G2 h2 hgb
  clear G2 h2 hc1 k1
  go_wp2_with fail
  refine (below_any 60 b A n c zs B w2 (hr.keep fun p hp => World.cell?_of_block (w := w) (k2.block p.block (by omega) (by simp; omega))) hB (by have := k2.size; omega) hn hc2 (by omega) (by omega)).mono ?_
  rintro e w3 ⟨v2, hv2, rfl, hc3, h3⟩
  have k3 := cur_grown_trans k2 h3
  have G4 := blk_grown G3 h3 hgb
  clear G3 h3 hc2 k2
  go_wp2_with fail
  obtain ⟨g1, hg1⟩ : ∃ g1, g1 = w3.heap.size := ⟨_, rfl⟩
  have G5 : (w3.alloc (.cells #[.int .i64 v0, .int .i64 v1, .int .i64 v2, .int .i64 0] 42)).heap[g1]? = some (.cells #[.int .i64 v0, .int .i64 v1, .int .i64 v2, .int .i64 0] 42 (0, 0)) := by rw [hg1]; exact heap_alloc_new w3 _
  have g1w : w.heap.size ≤ g1 := by have := k3.size; omega
  have g1b : g1 ≠ b := by omega
  have G6 := blk_alloc G4 (.cells #[.int .i64 v0, .int .i64 v1, .int .i64 v2, .int .i64 0] 42)
  have g01 : g0 ≠ g1 := by have := blk_lt G4; omega
  have hc4 := cur_alloc hc3 (.cells #[.int .i64 v0, .int .i64 v1, .int .i64 v2, .int .i64 0] 42)
  have k4 := grown_alloc k3 (.cells #[.int .i64 v0, .int .i64 v1, .int .i64 v2, .int .i64 0] 42)
  rw [← hg1]
  obtain ⟨w4, hw4⟩ : ∃ w4, w4 = w3.alloc (.cells #[.int .i64 v0, .int .i64 v1, .int .i64 v2, .int .i64 0] 42) := ⟨_, rfl⟩
  rw [← hw4] at G5 G6 hc4 k4 ⊢
  clear hw4 hg1 G4 hc3 k3
  have c2 : w4.cell? ⟨g1, 2, none⟩ = some (.int .i64 v2) := blk_cell G5 2
  have hr4 : RowI .u8 w4 B A n c zs := hr.keep fun p hp => World.cell?_of_block (w := w) (k4.block p.block (by omega) (by simp; omega))
  have hB4 : B ≤ w4.heap.size := by have := k4.size; omega
  have HG5 := Lib.hid G5
  clear G5
  go_region_held3 (fun w' => w'.cell? ⟨g1, 2, none⟩ = some (.int .i64 v2)) (first | go_keep | (exact s2) | (exact (World.cell?_setCell_other _ _ _ _ (by simp)).trans s2)) ((go_at_call 73; refine Calls.mono (below_any 30 b A n c zs B _ (by exact hr4) hB (by exact hB4) hn (by exact hc4) (by omega) (by omega)) ?_; rintro e w5 ⟨v3, hv3, rfl, hc5, h5⟩; have H5 := blk_grown (w := w4) HG5.out ⟨h5.os, h5.tape, h5.output, h5.size, h5.block⟩ g1b; have s2 : w5.cell? ⟨g1, 2, none⟩ = some (.int .i64 v2) := blk_cell H5 2; have s3 : w5.cell? ⟨g1, 3, none⟩ = some (.int .i64 0) := blk_cell H5 3; have f3 : w5.frozen? ⟨g1, 3, none⟩ = false := blk_frozen H5; have HH5 := Lib.hid H5; clear H5))
  have q1 : IntKind.i64.wrap ((v2 : Int) + (v3 : Int)) = ((v2 + v3 : Nat) : Int) := by rw [IntWalk.i64_in _ (by omega)]; push_cast; rfl
  rw [q1]
  clear q1 s2 s3 f3 c2
  obtain ⟨v4, hv4⟩ : ∃ v4, v4 = v2 + v3 := ⟨_, rfl⟩
  have l4 : v2 ≤ v4 ∧ v4 < 90 := by omega
  rw [← hv4]
  clear hv4
  have k5 := cur_grown_trans k4 (show w4.grownBy w5 (some b) from ⟨h5.os, h5.tape, h5.output, h5.size, h5.block⟩)
  have G7 := blk_grown (w := w4) G6 ⟨h5.os, h5.tape, h5.output, h5.size, h5.block⟩ hgb
  have k6 := grown_set k5 (p := ⟨g1, 3, none⟩) g1w (.int .i64 v4)
  have G8 := blk_set G7 (p := ⟨g1, 3, none⟩) g01 (.int .i64 v4)
  have hc6 := cur_set hc5 (p := ⟨g1, 3, none⟩) (Ne.symm g1b) (.int .i64 v4)
  have H6 := heap_setCell_same w5 g1 3 _ _ (.int .i64 v4) HH5.out
  obtain ⟨w6, hw6⟩ : ∃ w6, w6 = w5.setCell ⟨g1, 3, none⟩ (.int .i64 v4) := ⟨_, rfl⟩
  rw [← hw6] at H6 hc6 k6 G8 ⊢
  have H7 : w6.heap[g1]? = some (.cells #[.int .i64 v0, .int .i64 v1, .int .i64 v2, .int .i64 v4] 42 (0, 0)) := by simpa using H6
  clear hw6 H6 G7 G6 k5 k4 h5 hc5 hc4 HH5 HG5 hr4 hB4
  go_wp2_with fail
  refine (once_any 4 b A n c zs B w6 (hr.keep fun p hp => World.cell?_of_block (w := w) (k6.block p.block (by omega) (by simp; omega))) hB (by have := k6.size; omega) hn hc6 (by omega) (by omega)).mono ?_
  rintro e w7 ⟨t, rfl, hc7, h7⟩
  have k7 := cur_grown_trans k6 h7
  have G9 := blk_grown G8 h7 hgb
  have H8 := blk_grown H7 h7 g1b
  clear G8 H7 h7 hc6 k6
  have b0 := blk_cell G9 0
  have b1 := blk_cell G9 1
  have b2 := blk_cell G9 2
  have b3 := blk_cell G9 3
  have f0 := blk_frozen (j := 0) G9
  have f1 := blk_frozen (j := 1) G9
  have f2 := blk_frozen (j := 2) G9
  have f3 := blk_frozen (j := 3) G9
  have d0 := blk_cell H8 0
  have d1 := blk_cell H8 1
  have d2 := blk_cell H8 2
  have d3 := blk_cell H8 3
  have e3 := blk_frozen (j := 3) H8
  simp only [List.getElem?_toArray, List.getElem?_cons_zero, List.getElem?_cons_succ] at b0 b1 b2 b3 d0 d1 d2 d3
  clear G9 H8
  cases t
  · go_wp2_with fail
    refine bodyPost_ret (v := .agg #[.int .i64 v0, .int .i64 v1, .int .i64 v2, .int .i64 v4]) (by simp [results, Try.results74, go_sem, b0, b1, b2, b3]) rfl ⟨fun j => match j with | 0 => (v0 : Int) | 1 => (v1 : Int) | 2 => (v2 : Int) | _ => (v4 : Int), rfl, ?_, ?_, ?_⟩
    · refine ⟨?_, ?_, ?_, ?_, ?_, ?_, .inr ⟨?_, ?_⟩⟩ <;> simp only <;> omega
    · exact cur_set (cur_set (cur_set (cur_set hc7 (Ne.symm hgb) _) (Ne.symm hgb) _) (Ne.symm hgb) _) (Ne.symm hgb) _
    · exact grown_set (grown_set (grown_set (grown_set k7 hgw _) hgw _) hgw _) hgw _
  · go_wp2_with fail
    refine bodyPost_ret (v := .agg #[.int .i64 v0, .int .i64 v1, .int .i64 v2, .int .i64 (-1)]) (by simp [results, Try.results74, go_sem, b0, b1, b2, b3, g01]) rfl ⟨fun j => match j with | 0 => (v0 : Int) | 1 => (v1 : Int) | 2 => (v2 : Int) | _ => -1, rfl, ?_, ?_, ?_⟩
    · refine ⟨?_, ?_, ?_, ?_, ?_, ?_, .inl ?_⟩ <;> simp only <;> omega
    · exact cur_set (cur_set (cur_set (cur_set (cur_set hc7 (Ne.symm g1b) _) (Ne.symm hgb) _) (Ne.symm hgb) _) (Ne.symm hgb) _) (Ne.symm hgb) _
    · exact grown_set (grown_set (grown_set (grown_set (grown_set k7 g1w _) hgw _) hgw _) hgw _) hgw _
set_option maxHeartbeats 4000000 in
theorem drawParcels_any (A : Option Addr) (n c : Nat) (zs : List Int) (w : World) (hr : RowI .u8 w w.heap.size A n c zs) (hn : n ≤ 1048576) :
    Calls Try.prog 48 #[.slice A n c] w fun e w' => ∃ (N : Nat) (A2 : Option Addr) (c2 : Nat) (f : Nat → Nat → Int), N ≤ 6 ∧ e = .returned (.slice A2 N c2) ∧
      (∀ j, j < N → Drawn (f j)) ∧ OwnS 4 42 w' w.heap.size (.slice A2 N c2) N f ∧ Below w.heap.size w w' := by
  obtain ⟨B, hBB⟩ : ∃ B, B = w.heap.size := ⟨_, rfl⟩
  rw [← hBB] at hr ⊢
  have HB := Lib.hid hBB
  have b1 : B ≤ w.heap.size := by omega
  clear hBB
  go_enter Try.func48, Try.ntmps48
  go_wp2_with fail
  refine (new_any A n c zs B w hr hn).mono ?_
  rintro e w1 ⟨rfl, hc1, hb1, z1⟩
  rw [← HB.out] at hc1 hb1 z1 ⊢
  have z2 : B + 1 ≤ w1.heap.size := by omega
  clear z1
  have hb2 := hb1.alloc (show B ≤ w1.heap.size by omega) (.cells #[] 42)
  have hc2 := cur_alloc hc1 (.cells #[] 42)
  have ho2 := ownS_empty 4 42 w1 (fun _ _ => 0)
  have s2 : w1.heap.size ≤ (w1.alloc (.cells #[] 42)).heap.size := by simp
  go_wp2_with fail
  refine (below_any 7 B A n c zs B _ (hr.keep fun p hp => hb2.cell hp) (Nat.le_refl _) (by omega) hn hc2 (by omega) (by omega)).mono ?_
  rintro e w3 ⟨N, hN, rfl, hc3, hg3⟩
  have hb3 := hb2.trans (grown_below hg3 (Nat.le_refl _) (by omega))
  have ho3 := ownS_grown ho2 hg3 (by omega)
  have s3 := Nat.le_trans s2 hg3.size
  clear hb2 hc2 ho2 s2 hg3 hb1 hc1
  go_wp2_with fail
  go_loopw [4, 6, 7] (fun v jv _ wr => ∃ (j : Nat) (f : Nat → Nat → Int) (A2 : Option Addr) (c2 : Nat), j ≤ N ∧ jv = .int .i64 j ∧ v = .slice A2 j c2 ∧ Hid (∀ i, i < j → Drawn (f i)) ∧ OwnS 4 42 wr w1.heap.size (.slice A2 j c2) j f ∧ CurAt wr B A n c ∧ Below B w wr ∧ w1.heap.size ≤ wr.heap.size) (fun _ jv _ _ => N - (intOf jv).toNat)
  case atStart => exact ⟨0, _, _, _, by omega, rfl, rfl, Lib.hid (fun i hi => by omega), ho3, hc3, hb3, s3⟩
  case round =>
    clear ho3 hc3 hb3 s3
    obtain ⟨j, f, A2, c2, hj, rfl, rfl, HZ, ho, hc, hb, hs⟩ := hrel
    by_cases hlt : j < N
    · go_wp2_with fail
      refine (parcel_drawn B A n c zs B wr (hr.keep fun p hp => hb.cell hp) (Nat.le_refl _) (by omega) hn hc).mono ?_
      rintro e w4 ⟨q, rfl, hq, hc4, hg4⟩
      have HQ := Lib.hid hq
      have ho4 := ownS_grown ho hg4 (show B < w1.heap.size by omega)
      have hb4 := hb.trans (grown_below hg4 (Nat.le_refl _) (by omega))
      have s4 := hg4.size
      have HZ2 := Lib.hid (show ∀ i, i < j + 1 → Drawn (updS f j q i) from fun i hi => by
        rcases (by omega : i < j ∨ i = j) with h | rfl
        · rw [updS_lt h]; exact HZ.out i h
        · rw [updS_eq]; exact HQ.out)
      clear ho hc hb hg4 hq
      go_wp2_with (at_builtin; refine appS_shape Try.underlying48 info_parcelD rfl (by decide) (by decide) rfl _ _ rfl w1.heap.size j _ f q (w4.heap.size + 1) rfl ((ho4.alloc _).alloc _) rfl #[.int .i64 (q 0), .int .i64 (q 1), .int .i64 (q 2), .int .i64 (q 3)] rfl (by exact (by simp : (w4.alloc _).heap.size = w4.heap.size + 1) ▸ heap_alloc_new (w4.alloc _) _) (by omega) (by simp; omega) ?_; intro A6 c6 w6 ho6 hb6)
      have hb7 : Below w1.heap.size w4 w6 := (((Below.refl w1.heap.size w4).alloc (by omega) _).alloc (by simp; omega) _).trans hb6
      have s7 := hb7.size
      have hc7 := cur_below hc4 hb7 (by omega)
      have hb8 := hb4.trans (hb7.mono (by omega))
      clear hb6 hb7 hc4 hb4 ho4
      go_wp2
      go_roundw
      case rel => exact ⟨j + 1, _, A6, c6, by omega, by go_num, rfl, HZ2, ho6, hc7, hb8, by omega⟩
      case measure => simp [intOf]; omega
    · obtain rfl : N = j := by omega
      go_wp2
      go_ret
      exact ⟨N, A2, c2, f, by omega, rfl, HZ.out, ho.base_ (by omega), hb⟩
end Go.Proofs.Ythfhbcgnninlkaa
