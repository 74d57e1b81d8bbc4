/- Contracts of the reference's drawing of lines: l20Lines, DrawLines. -/
import Derived.Test.YtkgabnhfjmldbaaCurs
import Derived.Test.YtkgabnhfjmldbaaAppS
import Derived.Test.YtkgabnhfjmldbaaPureEv
import Derived.Deep.RegionHeld3
namespace Go.Proofs.Ytkgabnhfjmldbaa
open Go.ChangeShapes Go.WideShapes Go.ChangeAt Go.RowKit
theorem curL_alloc {w : World} {b n c : Nat} {A : Option Addr} (h : CurAt w b A n c) (o : Obj) : CurAt (w.alloc o) b A n c := by
  obtain ⟨i, x, hi, hh⟩ := h
  exact ⟨i, x, hi, blk_alloc hh o⟩
theorem curL_set {w : World} {b n c : Nat} {A : Option Addr} (h : CurAt w b A n c) {p : Addr} (hne : b ≠ p.block) (u : Value) : CurAt (w.setCell p u) b A n c := by
  obtain ⟨i, x, hi, hh⟩ := h
  exact ⟨i, x, hi, blk_set hh hne u⟩
/-- one line more -/
def lineF (a b : Int) : Nat → Int := fun j => if j = 0 then a else b
theorem inN_upd {N : Nat} {f : Nat → Nat → Int} {l : Nat} {a b : Nat} (h : inN N f l) (ha : a < N) (hb : b < N) (hab : a ≠ b) : inN N (updS f l (lineF a b)) (l + 1) := by
  intro k hk
  rcases (by omega : k < l ∨ k = l) with q | rfl
  · rw [updS_lt q]; exact h k q
  · rw [updS_eq]
    show 0 ≤ (a : Int) ∧ (a : Int) < N ∧ 0 ≤ (b : Int) ∧ (b : Int) < N ∧ (a : Int) ≠ b
    omega
theorem turn_mod {N a v : Nat} (ha : a < N) (hv : v + 1 < N) : ∃ T : Nat, ((a : Int) + 1 + v).tmod N = T ∧ T < N ∧ T ≠ a := by
  rcases (by omega : a + 1 + v < N ∨ N ≤ a + 1 + v) with q | q
  · refine ⟨a + 1 + v, ?_, q, by omega⟩
    rw [Int.tmod_eq_emod_of_nonneg (by omega), Int.emod_eq_of_lt (by omega) (by omega)]
    omega
  · refine ⟨a + 1 + v - N, ?_, by omega, by omega⟩
    rw [Int.tmod_eq_emod_of_nonneg (by omega), ← Int.sub_emod_right, Int.emod_eq_of_lt (by omega) (by omega)]
    omega
theorem info_lineD : (Try.prog.info? 43).map (fun i => (i.zero, i.size, i.bytes)) = some (some (.agg #[.int .i64 0, .int .i64 0]), 2, 16) := by kernel_rfl
set_option maxRecDepth 100000 in
set_option maxHeartbeats 4000000 in
theorem lines_drawn (b : Nat) (A : Option Addr) (n c : Nat) (zs : List Int) (B : Nat) (w : World) (hr : RowI .u8 w B A n c zs) (hB : B ≤ b) (hbw : b < w.heap.size) (hn : n ≤ 1048576) (hc : CurAt w b A n c) :
    Calls Try.prog 34 #[.pointer (some ⟨b, 0, none⟩)] w fun e w' => ∃ (N l : Nat) (A2 : Option Addr) (c2 : Nat) (f : Nat → Nat → Int), 2 ≤ N ∧ N ≤ 7 ∧ l ≤ 11 ∧ e = .returned (.tuple #[.int .i64 N, .slice A2 l c2]) ∧ Hid (inN N f l) ∧
      OwnS 2 43 w' w.heap.size (.slice A2 l c2) l f ∧ Below B w w' := by
  have hBw : B ≤ w.heap.size := by omega
  go_enter Try.func34, Try.ntmps34
  go_wp2_with fail
  refine (below_any 6 b A n c zs B w hr hB hBw hn hc (by omega) (by omega)).mono ?_
  rintro e w1 ⟨v, hv, rfl, hc1, hg1⟩
  have q1 : IntKind.i64.wrap (2 + (v : Int)) = ((v + 2 : Nat) : Int) := by rw [IntWalk.i64_in _ (by omega)]; omega
  obtain ⟨N, hN⟩ : ∃ N, N = v + 2 := ⟨_, rfl⟩
  rw [← hN] at q1
  have N2 : 2 ≤ N := by omega
  have N7 : N ≤ 7 := by omega
  clear hN hv
  have hb1 := grown_below hg1 hB hBw
  have s1 := hg1.size
  have hb2 := hb1.alloc (show B ≤ w1.heap.size by omega) (.cells #[] 43)
  have hc2 := curL_alloc hc1 (.cells #[] 43)
  have ho2 := (ownS_empty 2 43 w1 (fun _ _ => 0)).base_ s1
  have s2 : w.heap.size ≤ (w1.alloc (.cells #[] 43)).heap.size := by simp; omega
  clear hg1
  go_wp2_with fail
  refine (below_any N b A n c zs B _ (hr.below hb2) hB (by omega) hn hc2 (by omega) (by omega)).mono ?_
  rintro e w3 ⟨at0, hat0, rfl, hc3, hg3⟩
  have hb3 := hb2.trans (grown_below hg3 hB (by omega))
  have ho3 := ownS_grown ho2 hg3 (by omega)
  have s3 := Nat.le_trans s2 hg3.size
  clear hb2 hc2 ho2 s2 hg3 hb1 hc1 s1
  go_wp2_with fail
  refine (below_any 12 b A n c zs B _ (hr.below hb3) hB (by omega) hn hc3 (by omega) (by omega)).mono ?_
  rintro e w4 ⟨k0, hk0, rfl, hc4, hg4⟩
  have hb4 := hb3.trans (grown_below hg4 hB (by omega))
  have ho4 := ownS_grown ho3 hg4 (by omega)
  have s4 := Nat.le_trans s3 hg4.size
  clear hb3 hc3 ho3 s3 hg4
  go_wp2_with fail
  go_loopw [5, 6, 7] (fun ov av kv wr => ∃ (l at_ k : Nat) (f : Nat → Nat → Int) (A2 : Option Addr) (c2 : Nat), ov = .slice A2 l c2 ∧ av = .int .i64 at_ ∧ kv = .int .i64 k ∧ at_ < N ∧ l + k ≤ 11 ∧ Hid (inN N f l) ∧ OwnS 2 43 wr w.heap.size (.slice A2 l c2) l f ∧ CurAt wr b A n c ∧ Below B w wr ∧ w.heap.size ≤ wr.heap.size) (fun _ _ kv _ => (intOf kv).toNat)
  case atStart => exact ⟨0, at0, k0, _, _, _, rfl, rfl, rfl, hat0, by omega, Lib.hid (fun i hi => by omega), ho4, hc4, hb4, s4⟩
  case round =>
    clear ho4 hc4 hb4 s4 hat0 hk0
    obtain ⟨l, at_, k, f, A2, c2, rfl, rfl, rfl, hat, hlk, HI, ho, hc, hb, hs⟩ := hrel
    by_cases hlt : 0 < k
    · have k1 : (0 : Int) < (k : Int) := by omega
      have w0 : IntKind.i64.wrap ((N : Int) - 1) = ((N - 1 : Nat) : Int) := by rw [IntWalk.i64_in _ (by omega)]; omega
      obtain ⟨M, hM⟩ : ∃ M, M = N - 1 := ⟨_, rfl⟩
      rw [← hM] at w0
      have M1 : 1 ≤ M := by omega
      have M2 : M < N := by omega
      clear hM
      have wk : IntKind.i64.wrap ((k : Int) - 1) = ((k - 1 : Nat) : Int) := by rw [IntWalk.i64_in _ (by omega)]; omega
      obtain ⟨K, hK⟩ : ∃ K, K = k - 1 := ⟨_, rfl⟩
      rw [← hK] at wk
      have K1 : l + 1 + K ≤ 11 := by omega
      have K2 : K < k := by omega
      clear hK
      go_wp2_with fail
      refine (below_any M b A n c zs B wr (hr.below hb) hB (by omega) hn hc (by omega) (by omega)).mono ?_
      rintro e w5 ⟨u, hu, rfl, hc5, hg5⟩
      have hb5 := hb.trans (grown_below hg5 hB (by omega))
      have ho5 := ownS_grown ho hg5 (by omega)
      have s5 := Nat.le_trans hs hg5.size
      obtain ⟨T, hT, T1, T2⟩ := turn_mod (v := u) hat (by omega)
      have HT := Lib.hid hT
      clear hT hb hc ho hs hg5
      have w1' : IntKind.i64.wrap ((at_ : Int) + 1) = (at_ : Int) + 1 := IntWalk.i64_in _ (by omega)
      have w2' : IntKind.i64.wrap ((at_ : Int) + 1 + (u : Int)) = (at_ : Int) + 1 + (u : Int) := IntWalk.i64_in _ (by omega)
      have w3' := HT.out
      have w4' : IntKind.i64.wrap (T : Int) = (T : Int) := IntWalk.i64_in _ (by omega)
      have w5' : ((N : Int) == 0) = false := beq_eq_false_iff_ne.2 (by omega)
      obtain ⟨g, hg⟩ : ∃ g, g = w5.heap.size := ⟨_, rfl⟩
      have G1 : (w5.alloc (.cells #[.int .i64 at_, .int .i64 T] 43)).heap[g]? = some (.cells #[.int .i64 at_, .int .i64 T] 43 (0, 0)) := by rw [hg]; exact heap_alloc_new w5 _
      have hc6 := curL_alloc hc5 (.cells #[.int .i64 at_, .int .i64 T] 43)
      have ho6 := ho5.alloc (.cells #[.int .i64 at_, .int .i64 T] 43)
      have hb6 := hb5.alloc (by omega) (.cells #[.int .i64 at_, .int .i64 T] 43)
      have hlow : ∀ q, (Value.slice A2 l c2).ownBlock = some q → g ≠ q := fun q hq => by have := (World.ownsRow.lt ho5 q hq).2; omega
      have gb : g ≠ b := by omega
      have gB : B ≤ g := by omega
      have s6 : w.heap.size ≤ (w5.alloc (.cells #[.int .i64 at_, .int .i64 T] 43)).heap.size := by simp; omega
      clear hc5 ho5 hb5
      subst hg
      go_wp2_with fail
      obtain ⟨w6, hw6⟩ : ∃ w6, w6 = w5.alloc (.cells #[.int .i64 at_, .int .i64 T] 43) := ⟨_, rfl⟩
      rw [← hw6] at G1 hc6 ho6 hb6 s6 ⊢
      refine (once_any 2 b A n c zs B w6 (hr.below hb6) hB (by omega) hn hc6 (by omega) (by omega)).mono ?_
      rintro e w7 ⟨t, rfl, hc7, hg7⟩
      have hb7 := hb6.trans (grown_below hg7 hB (by omega))
      have ho7 := ownS_grown ho6 hg7 (by omega)
      have s7 := Nat.le_trans s6 hg7.size
      have G7 := blk_grown G1 hg7 gb
      have hne : ∀ q, (Value.slice A2 l c2).ownBlock = some q → w5.heap.size ≠ q := hlow
      have x0 : w7.cell? ⟨w5.heap.size, 0, none⟩ = some (.int .i64 at_) := blk_cell G7 0
      have x1 : w7.cell? ⟨w5.heap.size, 1, none⟩ = some (.int .i64 T) := blk_cell G7 1
      have f0 := blk_frozen (j := 0) G7
      have f1 := blk_frozen (j := 1) G7
      clear hw6 G1 hc6 ho6 hb6 s6 hg7 hlow
      cases t
      · have hcA := hc7
        have hoA := ho7
        have hbA := hb7
        have sA := s7
        have hnew := heap_alloc_new w7 (.cells #[.int .i64 at_, .int .i64 T] 43)
        clear hc7 ho7 hb7 s7
        have HI2 := Lib.hid (inN_upd (a := at_) (b := T) HI.out (by omega) (by omega) (by omega))
        go_wp2_with (at_builtin; refine appS_shape Try.underlying25 info_lineD rfl (by decide) (by decide) rfl _ _ rfl w.heap.size l _ f (lineF at_ T) _ rfl (hoA.alloc (.cells #[.int .i64 at_, .int .i64 T] 43)) rfl #[.int .i64 at_, .int .i64 T] rfl hnew (by omega) (by simp; omega) ?_; intro A8 c8 w8 ho8 hb8)
        have hb9 := (hbA.alloc (by omega) (.cells #[.int .i64 at_, .int .i64 T] 43)).trans (hb8.mono (show B ≤ w.heap.size by omega))
        have hc9 := cur_below (curL_alloc hcA (.cells #[.int .i64 at_, .int .i64 T] 43)) hb8 (by omega)
        have s9 : w.heap.size ≤ w8.heap.size := Nat.le_trans (by simp; omega) hb8.size
        clear hoA hbA hcA sA hb8 hnew
        refine (once_any 12 b A n c zs B w8 (hr.below hb9) hB (by omega) hn hc9 (by omega) (by omega)).mono ?_
        rintro e w10 ⟨t2, rfl, hc10, hg10⟩
        have hb10 := hb9.trans (grown_below hg10 hB (by omega))
        have ho10 := ownS_grown ho8 hg10 (by omega)
        have s10 := Nat.le_trans s9 hg10.size
        clear hb9 hc9 s9 hg10 ho8
        cases t2
        · go_wp2
          go_roundw
          case rel => exact ⟨l + 1, T, K, _, A8, c8, rfl, rfl, rfl, T1, K1, HI2, ho10, hc10, hb10, s10⟩
          case measure => simp [intOf]; omega
        · go_wp2_with fail
          refine (below_any N b A n c zs B w10 (hr.below hb10) hB (by omega) hn hc10 (by omega) (by omega)).mono ?_
          rintro e w11 ⟨x11, hx11, rfl, hc11, hg11⟩
          have hb11 := hb10.trans (grown_below hg11 hB (by omega))
          have ho11 := ownS_grown ho10 hg11 (by omega)
          have s11 := Nat.le_trans s10 hg11.size
          go_wp2
          go_roundw
          case rel => exact ⟨l + 1, x11, K, _, A8, c8, rfl, rfl, rfl, hx11, K1, HI2, ho11, hc11, hb11, s11⟩
          case measure => simp [intOf]; omega
      · have hcA := curL_set (curL_set hc7 (p := ⟨w5.heap.size, 0, none⟩) (Ne.symm gb) (.int .i64 T)) (p := ⟨w5.heap.size, 1, none⟩) (Ne.symm gb) (.int .i64 at_)
        have hoA := (ho7.setOther (p := ⟨w5.heap.size, 0, none⟩) (x := .int .i64 T) hne).setOther (p := ⟨w5.heap.size, 1, none⟩) (x := .int .i64 at_) hne
        have hbA := (hb7.setCell (p := ⟨w5.heap.size, 0, none⟩) gB (.int .i64 T)).setCell (p := ⟨w5.heap.size, 1, none⟩) gB (.int .i64 at_)
        have sA : w.heap.size ≤ ((w7.setCell ⟨w5.heap.size, 0, none⟩ (.int .i64 T)).setCell ⟨w5.heap.size, 1, none⟩ (.int .i64 at_)).heap.size := by simp; omega
        have hnew := heap_alloc_new ((w7.setCell ⟨w5.heap.size, 0, none⟩ (.int .i64 T)).setCell ⟨w5.heap.size, 1, none⟩ (.int .i64 at_)) (.cells #[.int .i64 T, .int .i64 at_] 43)
        rw [show ((w7.setCell ⟨w5.heap.size, 0, none⟩ (.int .i64 T)).setCell ⟨w5.heap.size, 1, none⟩ (.int .i64 at_)).heap.size = w7.heap.size by simp] at hnew
        clear hc7 ho7 hb7
        have HI2 := Lib.hid (inN_upd (a := T) (b := at_) HI.out (by omega) (by omega) (by omega))
        go_wp2_with (at_builtin; refine appS_shape Try.underlying25 info_lineD rfl (by decide) (by decide) rfl _ _ rfl w.heap.size l _ f (lineF T at_) _ rfl (hoA.alloc (.cells #[.int .i64 T, .int .i64 at_] 43)) rfl #[.int .i64 T, .int .i64 at_] rfl hnew (by omega) (by simp; omega) ?_; intro A8 c8 w8 ho8 hb8)
        have hb9 := (hbA.alloc (by omega) (.cells #[.int .i64 T, .int .i64 at_] 43)).trans (hb8.mono (show B ≤ w.heap.size by omega))
        have hc9 := cur_below (curL_alloc hcA (.cells #[.int .i64 T, .int .i64 at_] 43)) hb8 (by omega)
        have s9 : w.heap.size ≤ w8.heap.size := Nat.le_trans (by simp; omega) hb8.size
        clear hoA hbA hcA sA hb8 hnew
        refine (once_any 12 b A n c zs B w8 (hr.below hb9) hB (by omega) hn hc9 (by omega) (by omega)).mono ?_
        rintro e w10 ⟨t2, rfl, hc10, hg10⟩
        have hb10 := hb9.trans (grown_below hg10 hB (by omega))
        have ho10 := ownS_grown ho8 hg10 (by omega)
        have s10 := Nat.le_trans s9 hg10.size
        clear hb9 hc9 s9 hg10 ho8
        cases t2
        · go_wp2
          go_roundw
          case rel => exact ⟨l + 1, T, K, _, A8, c8, rfl, rfl, rfl, T1, K1, HI2, ho10, hc10, hb10, s10⟩
          case measure => simp [intOf]; omega
        · go_wp2_with fail
          refine (below_any N b A n c zs B w10 (hr.below hb10) hB (by omega) hn hc10 (by omega) (by omega)).mono ?_
          rintro e w11 ⟨x11, hx11, rfl, hc11, hg11⟩
          have hb11 := hb10.trans (grown_below hg11 hB (by omega))
          have ho11 := ownS_grown ho10 hg11 (by omega)
          have s11 := Nat.le_trans s10 hg11.size
          go_wp2
          go_roundw
          case rel => exact ⟨l + 1, x11, K, _, A8, c8, rfl, rfl, rfl, hx11, K1, HI2, ho11, hc11, hb11, s11⟩
          case measure => simp [intOf]; omega
    · obtain rfl : k = 0 := by omega
      go_wp2
      go_ret2
      exact ⟨N, l, A2, c2, f, N2, N7, by omega, rfl, HI, ho, hb⟩
theorem drawLines_any (A : Option Addr) (n c : Nat) (zs : List Int) (w : World) (hr : RowI .u8 w w.heap.size A n c zs) (hn : n ≤ 1048576) :
    Calls Try.prog 18 #[.slice A n c] w fun e w' => ∃ (N l : Nat) (A2 : Option Addr) (c2 : Nat) (f : Nat → Nat → Int), 2 ≤ N ∧ N ≤ 7 ∧ l ≤ 11 ∧ e = .returned (.tuple #[.int .i64 N, .slice A2 l c2]) ∧ Hid (inN N f l) ∧
      OwnS 2 43 w' w.heap.size (.slice A2 l c2) l f ∧ Below w.heap.size w w' := by
  obtain ⟨B, hBB⟩ : ∃ B, B = w.heap.size := ⟨_, rfl⟩
  rw [← hBB] at hr ⊢
  have HB := Lib.hid hBB
  clear hBB
  go_enter Try.func18, Try.ntmps18
  go_wp2_with fail
  refine (new_any A n c zs B w hr hn).mono ?_
  rintro e w1 ⟨rfl, hc1, hb1, z1⟩
  rw [← HB.out] at hc1 hb1 z1 ⊢
  go_wp2_with fail
  refine (lines_drawn B A n c zs B w1 (hr.below hb1) (Nat.le_refl _) (by omega) hn hc1).mono ?_
  rintro e w2 ⟨N, l, A2, c2, f, N2, N7, l11, rfl, HI, ho, hb⟩
  go_wp2
  go_ret2
  exact ⟨N, l, A2, c2, f, N2, N7, l11, rfl, HI, ho.base_ (by omega), hb1.trans hb⟩
end Go.Proofs.Ytkgabnhfjmldbaa
