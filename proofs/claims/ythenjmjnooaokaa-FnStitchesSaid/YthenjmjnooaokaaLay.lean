/- Contracts of LayoutOk, SeamLength and LayoutThread: the program's and the reference's. -/
import Derived.Test.YthenjmjnooaokaaStrs
import Derived.Test.YthenjmjnooaokaaBoxV
import Derived.Test.YthenjmjnooaokaaCell
import Derived.Test.YthenjmjnooaokaaStitch
import Derived.Test.YthenjmjnooaokaaPureLay
import Derived.Deep.QuietTactic
import Derived.BigQuiet
import Derived.Outline
namespace Go.Proofs.Ythenjmjnooaokaa
open Go.ChangeShapes Go.WideShapes Go.ChangeAt Go.RowKit
set_option maxHeartbeats 4000000 in
theorem has_any (p : Nat → Int) (x y : Nat) (w : World) (h0 : 0 ≤ p 0 ∧ p 0 ≤ 100) (h1 : 0 ≤ p 1 ∧ p 1 ≤ 100) (h2 : 0 ≤ p 2 ∧ p 2 ≤ 100) (h3 : 0 ≤ p 3 ∧ p 3 ≤ 100) :
    Calls Try.prog 110 #[.agg #[.int .i64 (p 0), .int .i64 (p 1), .int .i64 (p 2), .int .i64 (p 3), .int .i64 (p 4)], .int .i64 x, .int .i64 y] w fun e w' => e = .returned (.bool (inR (p 0) (p 2) x && inR (p 1) (p 3) y)) ∧ Below w.heap.size w w' := by
  go_enter Try.func110, Try.ntmps110
  go_wp2
  all_goals go_ret
  all_goals exact ⟨ret_bool (by first | (simp [inR] <;> omega) | simp_all [inR] | (simp [inR, *] <;> omega) | grind [inR]), (Below.refl _ _).alloc (Nat.le_refl _) _⟩
set_option maxRecDepth 100000 in
set_option maxHeartbeats 16000000 in
theorem impl_layoutOk (W H : Int) (A : Option Addr) (n c : Nat) (f : Nat → Nat → Int) (B : Nat) (w : World) (h : RowP 5 w B A n c f) (hB : B ≤ w.heap.size) :
    Calls Try.prog 103 #[.agg #[.int .i64 W, .int .i64 H, .slice A n c]] w fun e w' => e = .returned (.bool (layoutOk W H n f)) ∧ Below w.heap.size w w' := by
  have hcap := h.cap
  unfold maxLen at hcap
  have hb0 : Below w.heap.size w (w.alloc (.cells #[.int .i64 W, .int .i64 H, .slice A n c] 70)) := (Below.refl _ _).alloc (Nat.le_refl _) _
  have hx0 : BoxV (w.alloc (.cells #[.int .i64 W, .int .i64 H, .slice A n c] 70)) w.heap.size [.int .i64 W, .int .i64 H, .slice A n c] := boxV_new _ _ _
  rcases inB_or W 1 12 with ⟨hW, w1, w2⟩ | hW
  rotate_left
  · have HE := Lib.hid (show layoutOk W H n f = false by unfold layoutOk; rw [hW]; simp)
    go_enter Try.func103, Try.ntmps103
    go_wp2_with (go_at_call 52; refine (within_any _ _ _ _).mono ?_; rintro e w' ⟨rfl, rfl⟩)
    go_ret
    exact ⟨ret_bool HE.out.symm, hb0⟩
  rcases inB_or H 1 12 with ⟨hH, h1, h2⟩ | hH
  rotate_left
  · have HE := Lib.hid (show layoutOk W H n f = false by unfold layoutOk; rw [hH]; simp)
    go_enter Try.func103, Try.ntmps103
    go_wp2_with (go_at_call 52; refine (within_any _ _ _ _).mono ?_; rintro e w' ⟨rfl, rfl⟩)
    go_ret
    exact ⟨ret_bool HE.out.symm, hb0⟩
  rcases inB_or (n : Int) 1 12 with ⟨hN, n1, n2⟩ | hN
  rotate_left
  · have HE := Lib.hid (show layoutOk W H n f = false by unfold layoutOk; rw [hN]; simp)
    go_enter Try.func103, Try.ntmps103
    go_wp2_with (go_at_call 52; refine (within_any _ _ _ _).mono ?_; rintro e w' ⟨rfl, rfl⟩)
    go_ret
    exact ⟨ret_bool HE.out.symm, hb0⟩
  obtain ⟨Wn, rfl⟩ : ∃ Wn : Nat, W = Wn := ⟨W.toNat, by omega⟩
  obtain ⟨Hn, rfl⟩ : ∃ Hn : Nat, H = Hn := ⟨H.toNat, by omega⟩
  obtain ⟨W, hWd⟩ : ∃ W : Int, W = Wn := ⟨_, rfl⟩
  obtain ⟨H, hHd⟩ : ∃ H : Int, H = Hn := ⟨_, rfl⟩
  have HWH := Lib.hid (show inB (Wn : Int) 1 12 = true ∧ inB (Hn : Int) 1 12 = true ∧ inB (n : Int) 1 12 = true from ⟨hW, hH, hN⟩)
  have HQ := Lib.hid (fun k (hk : k < n) => patches_no (W := (Wn : Int)) (H := (Hn : Int)) (f := f) hk)
  have HT := Lib.hid (fun x y (hx : x < Wn) (hy : y < Hn) => tile_no (n := n) (f := f) hx hy)
  clear hWd hHd W H
  go_enter Try.func103, Try.ntmps103
  go_wp2_with (go_at_call 52; refine (within_any _ _ _ _).mono ?_; rintro e w' ⟨rfl, rfl⟩)
  clear hW hH hN
  go_loopw [4, 30] (fun _ i wr => ∃ k : Nat, k ≤ n ∧ i = .int .i64 k ∧ Hid (patchesOk Wn Hn f k = true) ∧ BoxV wr w.heap.size [.int .i64 Wn, .int .i64 Hn, .slice A n c] ∧ Below w.heap.size w wr) (fun _ i _ => n - (intOf i).toNat)
  case atStart => exact ⟨0, by omega, rfl, Lib.hid rfl, hx0, hb0⟩
  case round =>
    clear hx0 hb0
    obtain ⟨k, hk, rfl, hP, hx, hb⟩ := hrel
    have hbw := hb.size
    have xz := hx.1
    have xc0 := hx.2 0 _ rfl
    have xc1 := hx.2 1 _ rfl
    have xc2 := hx.2 2 _ rfl
    by_cases hlt : k < n
    · have h2' : RowP 5 wr B A n c f := h.keep fun p hp => hb.cell (by omega)
      obtain ⟨b, off, rfl, hbB, hc⟩ := h2'.at_ hlt
      have x0 : wr.cell? ⟨b, off + k * 5, none⟩ = some (.int .i64 (f k 0)) := by exact hc 0 (by omega)
      have x1 : wr.cell? ⟨b, off + k * 5 + 1, none⟩ = some (.int .i64 (f k 1)) := by rw [Nat.add_assoc]; exact hc 1 (by omega)
      have x2 : wr.cell? ⟨b, off + k * 5 + 2, none⟩ = some (.int .i64 (f k 2)) := by rw [Nat.add_assoc]; exact hc 2 (by omega)
      have x3 : wr.cell? ⟨b, off + k * 5 + 3, none⟩ = some (.int .i64 (f k 3)) := by rw [Nat.add_assoc]; exact hc 3 (by omega)
      have x4 : wr.cell? ⟨b, off + k * 5 + 4, none⟩ = some (.int .i64 (f k 4)) := by rw [Nat.add_assoc]; exact hc 4 (by omega)
      have k0 : (0 : Int) ≤ (k : Int) := by omega
      have k3 : (k : Int) < (n : Int) := by omega
      have NO := Lib.hid (HQ.out k hlt)
      clear hc h2'
      rcases inB_or (f k 0) (0) (Wn - 1) with ⟨t0, u0, v0⟩ | t0
      rotate_left
      · have HE := Lib.hid (show layoutOk Wn Hn n f = false from NO.out (by unfold patchOk; rw [t0]; simp))
        go_wp2_with (first | (go_at_call 52; refine (within_any _ _ _ _).mono ?_; rintro e w' ⟨rfl, rfl⟩) | (go_at_call 101; refine (isColor_any _ _).mono ?_; rintro e w' ⟨rfl, rfl⟩))
        go_ret
        exact ⟨ret_bool HE.out.symm, hb.alloc hb.size _⟩
      rcases inB_or (f k 1) (0) (Hn - 1) with ⟨t1, u1, v1⟩ | t1
      rotate_left
      · have HE := Lib.hid (show layoutOk Wn Hn n f = false from NO.out (by unfold patchOk; rw [t1]; simp))
        go_wp2_with (first | (go_at_call 52; refine (within_any _ _ _ _).mono ?_; rintro e w' ⟨rfl, rfl⟩) | (go_at_call 101; refine (isColor_any _ _).mono ?_; rintro e w' ⟨rfl, rfl⟩))
        go_ret
        exact ⟨ret_bool HE.out.symm, hb.alloc hb.size _⟩
      rcases inB_or (f k 2) (1) (Wn - f k 0) with ⟨t2, u2, v2⟩ | t2
      rotate_left
      · have HE := Lib.hid (show layoutOk Wn Hn n f = false from NO.out (by unfold patchOk; rw [t2]; simp))
        go_wp2_with (first | (go_at_call 52; refine (within_any _ _ _ _).mono ?_; rintro e w' ⟨rfl, rfl⟩) | (go_at_call 101; refine (isColor_any _ _).mono ?_; rintro e w' ⟨rfl, rfl⟩))
        go_ret
        exact ⟨ret_bool HE.out.symm, hb.alloc hb.size _⟩
      rcases inB_or (f k 3) (1) (Hn - f k 1) with ⟨t3, u3, v3⟩ | t3
      rotate_left
      · have HE := Lib.hid (show layoutOk Wn Hn n f = false from NO.out (by unfold patchOk; rw [t3]; simp))
        go_wp2_with (first | (go_at_call 52; refine (within_any _ _ _ _).mono ?_; rintro e w' ⟨rfl, rfl⟩) | (go_at_call 101; refine (isColor_any _ _).mono ?_; rintro e w' ⟨rfl, rfl⟩))
        go_ret
        exact ⟨ret_bool HE.out.symm, hb.alloc hb.size _⟩
      rcases inB_or (f k 4) (0) (5) with ⟨t4, u4, v4⟩ | t4
      rotate_left
      · have HE := Lib.hid (show layoutOk Wn Hn n f = false from NO.out (by unfold patchOk; rw [t4]; simp))
        go_wp2_with (first | (go_at_call 52; refine (within_any _ _ _ _).mono ?_; rintro e w' ⟨rfl, rfl⟩) | (go_at_call 101; refine (isColor_any _ _).mono ?_; rintro e w' ⟨rfl, rfl⟩))
        go_ret
        exact ⟨ret_bool HE.out.symm, hb.alloc hb.size _⟩
      have HP := Lib.hid (show patchesOk Wn Hn f (k + 1) = true from allTo_step (p := fun k => patchOk Wn Hn (f k)) hP.out (by show patchOk Wn Hn (f k) = true; unfold patchOk; rw [t0, t1, t2, t3, t4]; rfl))
      have hb5 := hb.alloc hb.size (.cells #[.int .i64 (f k 0), .int .i64 (f k 1), .int .i64 (f k 2), .int .i64 (f k 3), .int .i64 (f k 4)] 105)
      have hx5 : BoxV (wr.alloc (.cells #[.int .i64 (f k 0), .int .i64 (f k 1), .int .i64 (f k 2), .int .i64 (f k 3), .int .i64 (f k 4)] 105)) w.heap.size [.int .i64 Wn, .int .i64 Hn, .slice (some ⟨b, off, none⟩) n c] := hx.below ((Below.refl _ _).alloc (Nat.le_refl _) _) hx.1
      clear hx hb
      go_wp2_with (first | (go_at_call 52; refine (within_any _ _ _ _).mono ?_; rintro e w' ⟨rfl, rfl⟩) | (go_at_call 101; refine (isColor_any _ _).mono ?_; rintro e w' ⟨rfl, rfl⟩))
      go_roundw
      case rel => exact ⟨k + 1, by omega, by go_num, HP, hx5, hb5⟩
      case measure => simp [intOf]; omega
    · have k3 : ¬ (k : Int) < (n : Int) := by omega
      have HPn := Lib.hid (show patchesOk Wn Hn f n = true by have e := hP.out; rw [show k = n by omega] at e; exact e)
      have HK := Lib.hid (fun j (hj : j < n) => patchOk_t (allTo_iff.1 HPn.out j hj))
      go_wp2_with fail
      clear xz xc0 xc1 xc2
      obtain ⟨wo, rfl⟩ : ∃ wo : World, wo = wr := ⟨_, rfl⟩
      go_loopw [5, 6, 7, 9, 81] (fun _ _ _ _ i wr => ∃ y : Nat, y ≤ Hn ∧ i = .int .i64 y ∧ Hid (allTo (fun y => tileX f Wn n y) y = true) ∧ BoxV wr w.heap.size [.int .i64 Wn, .int .i64 Hn, .slice A n c] ∧ Below w.heap.size w wr) (fun _ _ _ _ i _ => Hn - (intOf i).toNat)
      case atStart => exact ⟨0, by omega, rfl, Lib.hid rfl, hx, hb⟩
      case round =>
        clear hx hb
        obtain ⟨y, hy, rfl, hY, hx, hb⟩ := hrel
        have xz := hx.1
        have xc0 := hx.2 0 _ rfl
        have xc1 := hx.2 1 _ rfl
        have xc2 := hx.2 2 _ rfl
        by_cases hyl : y < Hn
        · have y0 : (0 : Int) ≤ (y : Int) := by omega
          have y3 : (y : Int) < (Hn : Int) := by omega
          go_wp2_with fail
          clear xz xc0 xc1 xc2
          obtain ⟨wo2, rfl⟩ : ∃ wo2 : World, wo2 = wr := ⟨_, rfl⟩
          go_loopw [6, 7, 9, 86] (fun _ _ _ i wr => ∃ x : Nat, x ≤ Wn ∧ i = .int .i64 x ∧ Hid (allTo (fun x => coverN f x y n == 1) x = true) ∧ BoxV wr w.heap.size [.int .i64 Wn, .int .i64 Hn, .slice A n c] ∧ Below w.heap.size w wr) (fun _ _ _ i _ => Wn - (intOf i).toNat)
          case atStart => exact ⟨0, by omega, rfl, Lib.hid rfl, hx, hb⟩
          case round =>
            clear hx hb
            obtain ⟨x, hxl, rfl, hX, hx, hb⟩ := hrel
            have xz := hx.1
            have xc0 := hx.2 0 _ rfl
            have xc1 := hx.2 1 _ rfl
            have xc2 := hx.2 2 _ rfl
            by_cases hxw : x < Wn
            · have x0 : (0 : Int) ≤ (x : Int) := by omega
              have x3 : (x : Int) < (Wn : Int) := by omega
              go_wp2_with fail
              clear xz xc0 xc1 xc2
              obtain ⟨wo3, rfl⟩ : ∃ wo3 : World, wo3 = wr := ⟨_, rfl⟩
              go_loopw [7, 9, 92] (fun v _ i wr => ∃ j : Nat, j ≤ n ∧ i = .int .i64 j ∧ v = .int .i64 (coverN f x y j) ∧ BoxV wr w.heap.size [.int .i64 Wn, .int .i64 Hn, .slice A n c] ∧ Below w.heap.size w wr) (fun _ _ i _ => n - (intOf i).toNat)
              case atStart => exact ⟨0, by omega, rfl, rfl, hx, hb⟩
              case round =>
                clear hx hb x0 x3
                obtain ⟨j, hj, rfl, rfl, hx, hb⟩ := hrel
                have hcb := coverN_bd f x y j
                have hbw := hb.size
                by_cases hjn : j < n
                · have h2' : RowP 5 wr B A n c f := h.keep fun p hp => hb.cell (by omega)
                  obtain ⟨b, off, rfl, hbB, hc⟩ := h2'.at_ hjn
                  have x0 : wr.cell? ⟨b, off + j * 5, none⟩ = some (.int .i64 (f j 0)) := by exact hc 0 (by omega)
                  have x1 : wr.cell? ⟨b, off + j * 5 + 1, none⟩ = some (.int .i64 (f j 1)) := by rw [Nat.add_assoc]; exact hc 1 (by omega)
                  have x2 : wr.cell? ⟨b, off + j * 5 + 2, none⟩ = some (.int .i64 (f j 2)) := by rw [Nat.add_assoc]; exact hc 2 (by omega)
                  have x3 : wr.cell? ⟨b, off + j * 5 + 3, none⟩ = some (.int .i64 (f j 3)) := by rw [Nat.add_assoc]; exact hc 3 (by omega)
                  have x4 : wr.cell? ⟨b, off + j * 5 + 4, none⟩ = some (.int .i64 (f j 4)) := by rw [Nat.add_assoc]; exact hc 4 (by omega)
                  have j0 : (0 : Int) ≤ (j : Int) := by omega
                  have j3 : (j : Int) < (n : Int) := by omega
                  obtain ⟨g0, g1, g2, g3, _⟩ := HK.out j hjn
                  have HC := Lib.hid (show coverN f x y (j + 1) = coverN f x y j + ind (inR (f j 0) (f j 2) x && inR (f j 1) (f j 3) y) from rfl)
                  clear hc h2'
                  go_wp2_with fail
                  refine (has_any (f j) x y _ ⟨g0.1, by omega⟩ ⟨g1.1, by omega⟩ ⟨by omega, by omega⟩ ⟨by omega, by omega⟩).mono ?_
                  rintro e w2 ⟨rfl, hb2⟩
                  have hb5 := (hb.alloc hb.size (.cells #[.int .i64 (f j 0), .int .i64 (f j 1), .int .i64 (f j 2), .int .i64 (f j 3), .int .i64 (f j 4)] 105)).trans (hb2.mono (by simp; omega))
                  have hx5 := (hx.below ((Below.refl _ _).alloc (Nat.le_refl _) (.cells #[.int .i64 (f j 0), .int .i64 (f j 1), .int .i64 (f j 2), .int .i64 (f j 3), .int .i64 (f j 4)] 105)) hx.1).below hb2 (by have := hx.1; simp; omega)
                  clear hx hb hb2 x0 x1 x2 x3 x4 g0 g1 g2 g3
                  rcases Bool.eq_false_or_eq_true (inR (f j 0) (f j 2) x && inR (f j 1) (f j 3) y) with q | q
                  · have HS := Lib.hid (show coverN f x y (j + 1) = coverN f x y j + 1 by rw [HC.out, q]; rfl)
                    rw [q]
                    clear q
                    go_wp2
                    go_roundw
                    case rel => exact ⟨j + 1, by omega, by go_num, by rw [HS.out], hx5, hb5⟩
                    case measure => simp [intOf]; omega
                  · have HS := Lib.hid (show coverN f x y (j + 1) = coverN f x y j by rw [HC.out, q]; simp [ind])
                    rw [q]
                    clear q
                    go_wp2
                    go_roundw
                    case rel => exact ⟨j + 1, by omega, by go_num, by rw [HS.out], hx5, hb5⟩
                    case measure => simp [intOf]; omega
                · have j3 : ¬ (j : Int) < (n : Int) := by omega
                  have hjn2 : j = n := by omega
                  rcases Bool.eq_false_or_eq_true (coverN f x y j == 1) with q | q
                  · have HX := Lib.hid (show allTo (fun x => coverN f x y n == 1) (x + 1) = true from allTo_step (p := fun x => coverN f x y n == 1) hX.out (by rw [← hjn2]; exact q))
                    have q2 : (coverN f x y j != 1) = false := by simp [bne, q]
                    clear hjn2
                    go_wp2
                    go_roundw
                    case rel => exact ⟨x + 1, by omega, by go_num, HX, hx, hb⟩
                    case measure => simp [intOf]; omega
                  · have HE := Lib.hid (HT.out x y hxw hyl (by rw [← hjn2]; exact q))
                    have q2 : (coverN f x y j != 1) = true := by simp [bne, q]
                    clear hjn2
                    go_wp2
                    go_ret
                    exact ⟨ret_bool HE.out.symm, hb⟩
            · have x3 : ¬ (x : Int) < (Wn : Int) := by omega
              have HY := Lib.hid (show allTo (fun y => tileX f Wn n y) (y + 1) = true from allTo_step (p := fun y => tileX f Wn n y) hY.out (by have e := hX.out; rw [show x = Wn by omega] at e; exact e))
              go_wp2
              go_roundw
              case rel => exact ⟨y + 1, by omega, by go_num, HY, hx, hb⟩
              case measure => simp [intOf]; omega
        · have y3 : ¬ (y : Int) < (Hn : Int) := by omega
          have HE := Lib.hid (show layoutOk Wn Hn n f = true by have e := hY.out; rw [show y = Hn by omega] at e; unfold layoutOk tileY; rw [HWH.out.1, HWH.out.2.1, HWH.out.2.2, HPn.out, Int.toNat_natCast, Int.toNat_natCast, e]; rfl)
          go_wp2
          go_ret
          exact ⟨ret_bool HE.out.symm, hb⟩
set_option maxRecDepth 100000 in
set_option maxHeartbeats 16000000 in
theorem spec_layoutOk (W H : Int) (A : Option Addr) (n c : Nat) (f : Nat → Nat → Int) (B : Nat) (w : World) (h : RowP 5 w B A n c f) (hB : B ≤ w.heap.size) :
    Calls Try.prog 89 #[.agg #[.int .i64 W, .int .i64 H, .slice A n c]] w fun e w' => e = .returned (.bool (layoutOk W H n f)) ∧ Below w.heap.size w w' := by
  have hcap := h.cap
  unfold maxLen at hcap
  have hb0 : Below w.heap.size w (w.alloc (.cells #[.int .i64 W, .int .i64 H, .slice A n c] 70)) := (Below.refl _ _).alloc (Nat.le_refl _) _
  have hx0 : BoxV (w.alloc (.cells #[.int .i64 W, .int .i64 H, .slice A n c] 70)) w.heap.size [.int .i64 W, .int .i64 H, .slice A n c] := boxV_new _ _ _
  rcases inB_or W 1 12 with ⟨hW, w1, w2⟩ | hW
  rotate_left
  · have HE := Lib.hid (show layoutOk W H n f = false by unfold layoutOk; rw [hW]; simp)
    go_enter Try.func89, Try.ntmps89
    go_wp2_with (go_at_call 50; refine (l01In_any _ _ _ _).mono ?_; rintro e w' ⟨rfl, rfl⟩)
    go_ret
    exact ⟨ret_bool HE.out.symm, hb0⟩
  rcases inB_or H 1 12 with ⟨hH, h1, h2⟩ | hH
  rotate_left
  · have HE := Lib.hid (show layoutOk W H n f = false by unfold layoutOk; rw [hH]; simp)
    go_enter Try.func89, Try.ntmps89
    go_wp2_with (go_at_call 50; refine (l01In_any _ _ _ _).mono ?_; rintro e w' ⟨rfl, rfl⟩)
    go_ret
    exact ⟨ret_bool HE.out.symm, hb0⟩
  rcases inB_or (n : Int) 1 12 with ⟨hN, n1, n2⟩ | hN
  rotate_left
  · have HE := Lib.hid (show layoutOk W H n f = false by unfold layoutOk; rw [hN]; simp)
    go_enter Try.func89, Try.ntmps89
    go_wp2_with (go_at_call 50; refine (l01In_any _ _ _ _).mono ?_; rintro e w' ⟨rfl, rfl⟩)
    go_ret
    exact ⟨ret_bool HE.out.symm, hb0⟩
  obtain ⟨Wn, rfl⟩ : ∃ Wn : Nat, W = Wn := ⟨W.toNat, by omega⟩
  obtain ⟨Hn, rfl⟩ : ∃ Hn : Nat, H = Hn := ⟨H.toNat, by omega⟩
  obtain ⟨W, hWd⟩ : ∃ W : Int, W = Wn := ⟨_, rfl⟩
  obtain ⟨H, hHd⟩ : ∃ H : Int, H = Hn := ⟨_, rfl⟩
  have HWH := Lib.hid (show inB (Wn : Int) 1 12 = true ∧ inB (Hn : Int) 1 12 = true ∧ inB (n : Int) 1 12 = true from ⟨hW, hH, hN⟩)
  have HQ := Lib.hid (fun k (hk : k < n) => parts_no (W := (Wn : Int)) (H := (Hn : Int)) (f := f) hk)
  clear hWd hHd W H
  have hwh : 1 ≤ (Wn : Int) * (Hn : Int) ∧ (Wn : Int) * (Hn : Int) ≤ 144 := by
    have := patch_area (p := fun j => if j = 2 then (Wn : Int) else (Hn : Int)) (by simp; omega) (by simp; omega)
    simpa using this
  go_enter Try.func89, Try.ntmps89
  go_wp2_with (go_at_call 50; refine (l01In_any _ _ _ _).mono ?_; rintro e w' ⟨rfl, rfl⟩)
  clear hW hH hN
  go_loopw [3, 4, 5, 6, 7] (fun v i _ _ _ wr => ∃ k : Nat, k ≤ n ∧ i = .int .i64 k ∧ v = .int .i64 (areaTo f k) ∧ Hid (partsS Wn Hn f k = true) ∧ BoxV wr w.heap.size [.int .i64 Wn, .int .i64 Hn, .slice A n c] ∧ Below w.heap.size w wr) (fun _ i _ _ _ _ => n - (intOf i).toNat)
  case atStart => exact ⟨0, by omega, rfl, rfl, Lib.hid rfl, hx0, hb0⟩
  case round =>
    clear hx0 hb0
    obtain ⟨k, hk, rfl, rfl, hP, hx, hb⟩ := hrel
    have hbw := hb.size
    have xz := hx.1
    have xc0 := hx.2 0 _ rfl
    have xc1 := hx.2 1 _ rfl
    have xc2 := hx.2 2 _ rfl
    have HK := Lib.hid (fun j (hj : j < k) => patchOk_t (Bool.and_eq_true_iff.1 (allTo_iff.1 hP.out j hj)).1)
    have hab := areaTo_bd (W := (Wn : Int)) (H := (Hn : Int)) (f := f) (by omega) (by omega) k (fun i hi => (Bool.and_eq_true_iff.1 (allTo_iff.1 hP.out i hi)).1)
    by_cases hlt : k < n
    · have h2' : RowP 5 wr B A n c f := h.keep fun p hp => hb.cell (by omega)
      obtain ⟨b, off, rfl, hbB, hc⟩ := h2'.at_ hlt
      have x0 : wr.cell? ⟨b, off + k * 5, none⟩ = some (.int .i64 (f k 0)) := by exact hc 0 (by omega)
      have x1 : wr.cell? ⟨b, off + k * 5 + 1, none⟩ = some (.int .i64 (f k 1)) := by rw [Nat.add_assoc]; exact hc 1 (by omega)
      have x2 : wr.cell? ⟨b, off + k * 5 + 2, none⟩ = some (.int .i64 (f k 2)) := by rw [Nat.add_assoc]; exact hc 2 (by omega)
      have x3 : wr.cell? ⟨b, off + k * 5 + 3, none⟩ = some (.int .i64 (f k 3)) := by rw [Nat.add_assoc]; exact hc 3 (by omega)
      have x4 : wr.cell? ⟨b, off + k * 5 + 4, none⟩ = some (.int .i64 (f k 4)) := by rw [Nat.add_assoc]; exact hc 4 (by omega)
      have k0 : (0 : Int) ≤ (k : Int) := by omega
      have k3 : (k : Int) < (n : Int) := by omega
      have NO := Lib.hid (HQ.out k hlt)
      clear hc h2'
      rcases inB_or (f k 0) (0) (Wn - 1) with ⟨t0, u0, v0⟩ | t0
      rotate_left
      · have HE := Lib.hid (show layoutOk Wn Hn n f = false from NO.out (by unfold patchOk; rw [t0]; simp))
        go_wp2_with (go_at_call 50; refine (l01In_any _ _ _ _).mono ?_; rintro e w' ⟨rfl, rfl⟩)
        go_ret
        exact ⟨ret_bool HE.out.symm, hb.alloc hb.size _⟩
      rcases inB_or (f k 1) (0) (Hn - 1) with ⟨t1, u1, v1⟩ | t1
      rotate_left
      · have HE := Lib.hid (show layoutOk Wn Hn n f = false from NO.out (by unfold patchOk; rw [t1]; simp))
        go_wp2_with (go_at_call 50; refine (l01In_any _ _ _ _).mono ?_; rintro e w' ⟨rfl, rfl⟩)
        go_ret
        exact ⟨ret_bool HE.out.symm, hb.alloc hb.size _⟩
      rcases inB_or (f k 2) (1) (Wn - f k 0) with ⟨t2, u2, v2⟩ | t2
      rotate_left
      · have HE := Lib.hid (show layoutOk Wn Hn n f = false from NO.out (by unfold patchOk; rw [t2]; simp))
        go_wp2_with (go_at_call 50; refine (l01In_any _ _ _ _).mono ?_; rintro e w' ⟨rfl, rfl⟩)
        go_ret
        exact ⟨ret_bool HE.out.symm, hb.alloc hb.size _⟩
      rcases inB_or (f k 3) (1) (Hn - f k 1) with ⟨t3, u3, v3⟩ | t3
      rotate_left
      · have HE := Lib.hid (show layoutOk Wn Hn n f = false from NO.out (by unfold patchOk; rw [t3]; simp))
        go_wp2_with (go_at_call 50; refine (l01In_any _ _ _ _).mono ?_; rintro e w' ⟨rfl, rfl⟩)
        go_ret
        exact ⟨ret_bool HE.out.symm, hb.alloc hb.size _⟩
      rcases inB_or (f k 4) (0) (5) with ⟨t4, u4, v4⟩ | t4
      rotate_left
      · have HE := Lib.hid (show layoutOk Wn Hn n f = false from NO.out (by unfold patchOk; rw [t4]; simp))
        go_wp2_with (go_at_call 50; refine (l01In_any _ _ _ _).mono ?_; rintro e w' ⟨rfl, rfl⟩)
        go_ret
        exact ⟨ret_bool HE.out.symm, hb.alloc hb.size _⟩
      have HPk := Lib.hid (show patchOk Wn Hn (f k) = true by unfold patchOk; rw [t0, t1, t2, t3, t4]; rfl)
      have hpa := patch_area (p := f k) (by omega) (by omega)
      have hb4 := hb.alloc hb.size (.cells #[.int .i64 (f k 0), .int .i64 (f k 1), .int .i64 (f k 2), .int .i64 (f k 3), .int .i64 (f k 4)] 105)
      have hx4 : BoxV (wr.alloc (.cells #[.int .i64 (f k 0), .int .i64 (f k 1), .int .i64 (f k 2), .int .i64 (f k 3), .int .i64 (f k 4)] 105)) w.heap.size [.int .i64 Wn, .int .i64 Hn, .slice (some ⟨b, off, none⟩) n c] := hx.below ((Below.refl _ _).alloc (Nat.le_refl _) _) hx.1
      have hp4 : BoxV (wr.alloc (.cells #[.int .i64 (f k 0), .int .i64 (f k 1), .int .i64 (f k 2), .int .i64 (f k 3), .int .i64 (f k 4)] 105)) wr.heap.size [.int .i64 (f k 0), .int .i64 (f k 1), .int .i64 (f k 2), .int .i64 (f k 3), .int .i64 (f k 4)] := boxV_new _ _ _
      have hpz : w.heap.size < wr.heap.size := hx.1
      clear hx hb
      go_wp2_with (go_at_call 50; refine (l01In_any _ _ _ _).mono ?_; rintro e w' ⟨rfl, rfl⟩)
      clear xz xc0 xc1 xc2 t0 t1 t2 t3 t4 x0 x1 x2 x3 x4
      obtain ⟨pb, hpb⟩ : ∃ pb : Nat, pb = wr.heap.size := ⟨_, rfl⟩
      rw [← hpb] at hp4 hpz
      simp only [← hpb]
      have HPB := Lib.hid hpb
      clear hpb
      go_loopw [6, 7] (fun v _ wr => ∃ i : Nat, i ≤ k ∧ v = .int .i64 i ∧ Hid (allTo (fun i => !overlap f k i) i = true) ∧ BoxV wr pb [.int .i64 (f k 0), .int .i64 (f k 1), .int .i64 (f k 2), .int .i64 (f k 3), .int .i64 (f k 4)] ∧ BoxV wr w.heap.size [.int .i64 Wn, .int .i64 Hn, .slice (some ⟨b, off, none⟩) n c] ∧ Below w.heap.size w wr) (fun v _ _ => k - (intOf v).toNat)
      case atStart => exact ⟨0, by omega, rfl, Lib.hid rfl, hp4, hx4, hb4⟩
      case round =>
        clear hp4 hx4 hb4
        obtain ⟨i, hi, rfl, hF, hp, hx, hb⟩ := hrel
        have hbw := hb.size
        have xz := hx.1
        have xc0 := hx.2 0 _ rfl
        have xc1 := hx.2 1 _ rfl
        have xc2 := hx.2 2 _ rfl
        have pz := hp.1
        have pc0 := hp.2 0 _ rfl
        have pc1 := hp.2 1 _ rfl
        have pc2 := hp.2 2 _ rfl
        have pc3 := hp.2 3 _ rfl
        by_cases hik : i < k
        · have h2' : RowP 5 wr B _ n c f := h.keep fun p hp => hb.cell (by omega)
          obtain ⟨b', off', e', hbB', hc⟩ := h2'.at_ (show i < n by omega)
          simp only [Option.some.injEq, Addr.mk.injEq, and_true] at e'
          obtain ⟨rfl, rfl⟩ := e'
          have x0 : wr.cell? ⟨b, off + i * 5, none⟩ = some (.int .i64 (f i 0)) := by exact hc 0 (by omega)
          have x1 : wr.cell? ⟨b, off + i * 5 + 1, none⟩ = some (.int .i64 (f i 1)) := by rw [Nat.add_assoc]; exact hc 1 (by omega)
          have x2 : wr.cell? ⟨b, off + i * 5 + 2, none⟩ = some (.int .i64 (f i 2)) := by rw [Nat.add_assoc]; exact hc 2 (by omega)
          have x3 : wr.cell? ⟨b, off + i * 5 + 3, none⟩ = some (.int .i64 (f i 3)) := by rw [Nat.add_assoc]; exact hc 3 (by omega)
          have x4 : wr.cell? ⟨b, off + i * 5 + 4, none⟩ = some (.int .i64 (f i 4)) := by rw [Nat.add_assoc]; exact hc 4 (by omega)
          have i0 : (0 : Int) ≤ (i : Int) := by omega
          have i3 : (i : Int) < (k : Int) := by omega
          have i4 : (i : Int) < (n : Int) := by omega
          obtain ⟨g0, g1, g2, g3, _⟩ := HK.out i hik
          have hb5 := hb.alloc hb.size (.cells #[.int .i64 (f i 0), .int .i64 (f i 1), .int .i64 (f i 2), .int .i64 (f i 3), .int .i64 (f i 4)] 105)
          have hx5 : BoxV (wr.alloc (.cells #[.int .i64 (f i 0), .int .i64 (f i 1), .int .i64 (f i 2), .int .i64 (f i 3), .int .i64 (f i 4)] 105)) w.heap.size [.int .i64 Wn, .int .i64 Hn, .slice (some ⟨b, off, none⟩) n c] := hx.below ((Below.refl _ _).alloc (Nat.le_refl _) _) hx.1
          have hp5 : BoxV (wr.alloc (.cells #[.int .i64 (f i 0), .int .i64 (f i 1), .int .i64 (f i 2), .int .i64 (f i 3), .int .i64 (f i 4)] 105)) pb [.int .i64 (f k 0), .int .i64 (f k 1), .int .i64 (f k 2), .int .i64 (f k 3), .int .i64 (f k 4)] := hp.below ((Below.refl _ _).alloc (Nat.le_refl _) _) hp.1
          clear hc h2' hx hp hb
          rcases (by omega : f k 0 < f i 0 + f i 2 ∨ f i 0 + f i 2 ≤ f k 0) with o0 | o0
          rotate_left
          · have HF := Lib.hid (show allTo (fun i => !overlap f k i) (i + 1) = true from allTo_step (p := fun i => !overlap f k i) hF.out (by show (!overlap f k i) = true; unfold overlap; rw [decide_eq_false (by omega : ¬ f k 0 < f i 0 + f i 2)]; simp))
            go_wp2
            go_roundw
            case rel => exact ⟨i + 1, by omega, by go_num, HF, hp5, hx5, hb5⟩
            case measure => simp [intOf]; omega
          rcases (by omega : f i 0 < f k 0 + f k 2 ∨ f k 0 + f k 2 ≤ f i 0) with o1 | o1
          rotate_left
          · have HF := Lib.hid (show allTo (fun i => !overlap f k i) (i + 1) = true from allTo_step (p := fun i => !overlap f k i) hF.out (by show (!overlap f k i) = true; unfold overlap; rw [decide_eq_false (by omega : ¬ f i 0 < f k 0 + f k 2)]; simp))
            go_wp2
            go_roundw
            case rel => exact ⟨i + 1, by omega, by go_num, HF, hp5, hx5, hb5⟩
            case measure => simp [intOf]; omega
          rcases (by omega : f k 1 < f i 1 + f i 3 ∨ f i 1 + f i 3 ≤ f k 1) with o2 | o2
          rotate_left
          · have HF := Lib.hid (show allTo (fun i => !overlap f k i) (i + 1) = true from allTo_step (p := fun i => !overlap f k i) hF.out (by show (!overlap f k i) = true; unfold overlap; rw [decide_eq_false (by omega : ¬ f k 1 < f i 1 + f i 3)]; simp))
            go_wp2
            go_roundw
            case rel => exact ⟨i + 1, by omega, by go_num, HF, hp5, hx5, hb5⟩
            case measure => simp [intOf]; omega
          rcases (by omega : f i 1 < f k 1 + f k 3 ∨ f k 1 + f k 3 ≤ f i 1) with o3 | o3
          rotate_left
          · have HF := Lib.hid (show allTo (fun i => !overlap f k i) (i + 1) = true from allTo_step (p := fun i => !overlap f k i) hF.out (by show (!overlap f k i) = true; unfold overlap; rw [decide_eq_false (by omega : ¬ f i 1 < f k 1 + f k 3)]; simp))
            go_wp2
            go_roundw
            case rel => exact ⟨i + 1, by omega, by go_num, HF, hp5, hx5, hb5⟩
            case measure => simp [intOf]; omega
          have HE := Lib.hid (NO.out (show (patchOk Wn Hn (f k) && freeOf f k) = false by unfold freeOf; rw [allTo_no (p := fun i => !overlap f k i) hik (by show (!overlap f k i) = false; unfold overlap; rw [decide_eq_true o0, decide_eq_true o1, decide_eq_true o2, decide_eq_true o3]; rfl), Bool.and_false]))
          go_wp2
          go_ret
          exact ⟨ret_bool HE.out.symm, hb5⟩
        · have i3 : ¬ (i : Int) < (k : Int) := by omega
          have HFk := Lib.hid (show freeOf f k = true by have e := hF.out; rw [show i = k by omega] at e; exact e)
          have HPn := Lib.hid (show partsS Wn Hn f (k + 1) = true from allTo_step (p := fun k => patchOk Wn Hn (f k) && freeOf f k) hP.out (by show (patchOk Wn Hn (f k) && freeOf f k) = true; rw [HPk.out, HFk.out]; rfl))
          have HS := Lib.hid (show areaTo f (k + 1) = areaTo f k + f k 2 * f k 3 from rfl)
          go_wp2
          go_roundw
          case rel => exact ⟨k + 1, by omega, by go_num, by rw [HS.out], HPn, hx, hb⟩
          case measure => simp [intOf]; omega
    · have k3 : ¬ (k : Int) < (n : Int) := by omega
      have HE := Lib.hid (show layoutOk Wn Hn n f = (areaTo f k == (Wn : Int) * (Hn : Int)) by have e := hP.out; rw [show k = n by omega] at e; rw [layout_s, HWH.out.1, HWH.out.2.1, HWH.out.2.2, e, show k = n by omega]; rfl)
      go_wp2
      go_ret
      exact ⟨ret_bool HE.out.symm, hb⟩
set_option maxHeartbeats 8000000 in
theorem impl_seam (W H : Int) (A : Option Addr) (n c : Nat) (f : Nat → Nat → Int) (B : Nat) (w : World) (h : RowP 5 w B A n c f) (hB : B ≤ w.heap.size) :
    Calls Try.prog 85 #[.agg #[.int .i64 W, .int .i64 H, .slice A n c]] w fun e w' => e = .returned (.int .i64 (seam W H n f)) ∧ Below w.heap.size w w' := by
  have hcap := h.cap
  unfold maxLen at hcap
  have hb0 : Below w.heap.size w (w.alloc (.cells #[.int .i64 W, .int .i64 H, .slice A n c] 70)) := (Below.refl _ _).alloc (Nat.le_refl _) _
  have hx0 : BoxV (w.alloc (.cells #[.int .i64 W, .int .i64 H, .slice A n c] 70)) w.heap.size [.int .i64 W, .int .i64 H, .slice A n c] := boxV_new _ _ _
  have h0 : RowP 5 (w.alloc (.cells #[.int .i64 W, .int .i64 H, .slice A n c] 70)) B A n c f := h.keep fun p hp => hb0.cell (by omega)
  rcases Bool.eq_false_or_eq_true (layoutOk W H n f) with hO | hO
  rotate_left
  · have HE := Lib.hid (show seam W H n f = -1 by unfold seam; rw [hO]; rfl)
    go_enter Try.func85, Try.ntmps85
    go_wp2_with fail
    refine (impl_layoutOk W H A n c f B _ h0 (by simp; omega)).mono ?_
    rintro e w1 ⟨rfl, hb1⟩
    rw [hO]
    have hb2 := hb0.trans (hb1.mono (by simp))
    clear hO hb0 hb1 hx0 h0
    go_wp2
    go_ret
    exact ⟨ret_int HE.out.symm, hb2⟩
  have hL := layout_of hO
  have HE := Lib.hid (show seam W H n f = sidesTo f n - W - H by unfold seam; rw [hO]; rfl)
  have HO := Lib.hid hO
  obtain ⟨w1', w2'⟩ := hL.w
  obtain ⟨h1', h2'⟩ := hL.h
  obtain ⟨n1, n2⟩ := hL.n12
  have HK := Lib.hid (fun j (hj : j < n) => patchOk_t (hL.ok j hj))
  have HS0 := Lib.hid (sidesTo_bd hL)
  clear hO hL
  go_enter Try.func85, Try.ntmps85
  go_wp2_with fail
  refine (impl_layoutOk W H A n c f B _ h0 (by simp; omega)).mono ?_
  rintro e w1 ⟨rfl, hb1⟩
  rw [HO.out]
  have hx1 := hx0.below hb1 (by simp)
  have hb2 := hb0.trans (hb1.mono (by simp))
  clear hb0 hb1 hx0 h0
  have xz := hx1.1
  have xc0 := hx1.2 0 _ rfl
  have xc1 := hx1.2 1 _ rfl
  have xc2 := hx1.2 2 _ rfl
  go_wp2_with fail
  clear xz xc0 xc1 xc2
  go_loopw [3, 5, 18] (fun v _ i wr => ∃ k : Nat, k ≤ n ∧ i = .int .i64 k ∧ v = .int .i64 (sidesTo f k - W - H) ∧ Below w.heap.size w wr) (fun _ _ i _ => n - (intOf i).toNat)
  case atStart => exact ⟨0, by omega, rfl, by simp only [sidesTo]; congr 1; omega, hb2⟩
  case round =>
    clear hb2 hx1
    obtain ⟨k, hk, rfl, rfl, hb⟩ := hrel
    have hbw := hb.size
    have hbd := HS0.out k hk
    by_cases hlt : k < n
    · have h2 : RowP 5 wr B A n c f := h.keep fun p hp => hb.cell (by omega)
      obtain ⟨b, off, rfl, hbB, hc⟩ := h2.at_ hlt
      have x0 : wr.cell? ⟨b, off + k * 5, none⟩ = some (.int .i64 (f k 0)) := by exact hc 0 (by omega)
      have x1 : wr.cell? ⟨b, off + k * 5 + 1, none⟩ = some (.int .i64 (f k 1)) := by rw [Nat.add_assoc]; exact hc 1 (by omega)
      have x2 : wr.cell? ⟨b, off + k * 5 + 2, none⟩ = some (.int .i64 (f k 2)) := by rw [Nat.add_assoc]; exact hc 2 (by omega)
      have x3 : wr.cell? ⟨b, off + k * 5 + 3, none⟩ = some (.int .i64 (f k 3)) := by rw [Nat.add_assoc]; exact hc 3 (by omega)
      have x4 : wr.cell? ⟨b, off + k * 5 + 4, none⟩ = some (.int .i64 (f k 4)) := by rw [Nat.add_assoc]; exact hc 4 (by omega)
      have k0 : (0 : Int) ≤ (k : Int) := by omega
      have k3 : (k : Int) < (n : Int) := by omega
      obtain ⟨g0, g1, g2, g3, _⟩ := HK.out k hlt
      have HS := Lib.hid (show sidesTo f (k + 1) = sidesTo f k + (f k 2 + f k 3) from rfl)
      have hb5 := hb.alloc hb.size (.cells #[.int .i64 (f k 0), .int .i64 (f k 1), .int .i64 (f k 2), .int .i64 (f k 3), .int .i64 (f k 4)] 105)
      clear hc h2 hb
      go_wp2
      go_roundw
      case rel => exact ⟨k + 1, by omega, by go_num, by rw [HS.out]; congr 1; omega, hb5⟩
      case measure => simp [intOf]; omega
    · have k3 : ¬ (k : Int) < (n : Int) := by omega
      have HF := Lib.hid (show sidesTo f k - W - H = seam W H n f by rw [HE.out, show k = n by omega])
      go_wp2
      go_ret
      exact ⟨ret_int HF.out, hb⟩
set_option maxHeartbeats 8000000 in
theorem spec_seam (W H : Int) (A : Option Addr) (n c : Nat) (f : Nat → Nat → Int) (B : Nat) (w : World) (h : RowP 5 w B A n c f) (hB : B ≤ w.heap.size) :
    Calls Try.prog 49 #[.agg #[.int .i64 W, .int .i64 H, .slice A n c]] w fun e w' => e = .returned (.int .i64 (seam W H n f)) ∧ Below w.heap.size w w' := by
  have hcap := h.cap
  unfold maxLen at hcap
  have hb0 : Below w.heap.size w (w.alloc (.cells #[.int .i64 W, .int .i64 H, .slice A n c] 70)) := (Below.refl _ _).alloc (Nat.le_refl _) _
  have hx0 : BoxV (w.alloc (.cells #[.int .i64 W, .int .i64 H, .slice A n c] 70)) w.heap.size [.int .i64 W, .int .i64 H, .slice A n c] := boxV_new _ _ _
  have h0 : RowP 5 (w.alloc (.cells #[.int .i64 W, .int .i64 H, .slice A n c] 70)) B A n c f := h.keep fun p hp => hb0.cell (by omega)
  rcases Bool.eq_false_or_eq_true (layoutOk W H n f) with hO | hO
  rotate_left
  · have HE := Lib.hid (show seam W H n f = -1 by unfold seam; rw [hO]; rfl)
    go_enter Try.func49, Try.ntmps49
    go_wp2_with fail
    refine (spec_layoutOk W H A n c f B _ h0 (by simp; omega)).mono ?_
    rintro e w1 ⟨rfl, hb1⟩
    rw [hO]
    have hb2 := hb0.trans (hb1.mono (by simp))
    clear hO hb0 hb1 hx0 h0
    go_wp2
    go_ret
    exact ⟨ret_int HE.out.symm, hb2⟩
  have hL := layout_of hO
  have HE := Lib.hid (show seam W H n f = sidesTo f n - W - H by unfold seam; rw [hO]; rfl)
  have HO := Lib.hid hO
  obtain ⟨w1', w2'⟩ := hL.w
  obtain ⟨h1', h2'⟩ := hL.h
  obtain ⟨n1, n2⟩ := hL.n12
  have HK := Lib.hid (fun j (hj : j < n) => patchOk_t (hL.ok j hj))
  have HS0 := Lib.hid (sidesTo_bd hL)
  clear hO hL
  go_enter Try.func49, Try.ntmps49
  go_wp2_with fail
  refine (spec_layoutOk W H A n c f B _ h0 (by simp; omega)).mono ?_
  rintro e w1 ⟨rfl, hb1⟩
  rw [HO.out]
  have hx1 := hx0.below hb1 (by simp)
  have hb2 := hb0.trans (hb1.mono (by simp))
  clear hb0 hb1 hx0 h0
  have xz := hx1.1
  have xc0 := hx1.2 0 _ rfl
  have xc1 := hx1.2 1 _ rfl
  have xc2 := hx1.2 2 _ rfl
  go_wp2_with fail
  clear xz xc0 xc1 xc2
  go_loopw [3, 4] (fun v i wr => ∃ k : Nat, k ≤ n ∧ i = .int .i64 k ∧ v = .int .i64 (sidesTo f k) ∧ BoxV wr w.heap.size [.int .i64 W, .int .i64 H, .slice A n c] ∧ Below w.heap.size w wr ∧ RowP 5 wr B A n c f) (fun _ i _ => n - (intOf i).toNat)
  case atStart => exact ⟨0, by omega, rfl, rfl, hx1, hb2, h.keep fun p hp => hb2.cell (by omega)⟩
  case round =>
    clear hb2 hx1 h
    obtain ⟨k, hk, rfl, rfl, hx, hb, h⟩ := hrel
    have hbw := hb.size
    have hbd := HS0.out k hk
    have xz := hx.1
    have xc0 := hx.2 0 _ rfl
    have xc1 := hx.2 1 _ rfl
    have xc2 := hx.2 2 _ rfl
    by_cases hlt : k < n
    · obtain ⟨b, off, rfl, hbB, hc⟩ := h.at_ hlt
      have x0 : wr.cell? ⟨b, off + k * 5, none⟩ = some (.int .i64 (f k 0)) := by exact hc 0 (by omega)
      have x1 : wr.cell? ⟨b, off + k * 5 + 1, none⟩ = some (.int .i64 (f k 1)) := by rw [Nat.add_assoc]; exact hc 1 (by omega)
      have x2 : wr.cell? ⟨b, off + k * 5 + 2, none⟩ = some (.int .i64 (f k 2)) := by rw [Nat.add_assoc]; exact hc 2 (by omega)
      have x3 : wr.cell? ⟨b, off + k * 5 + 3, none⟩ = some (.int .i64 (f k 3)) := by rw [Nat.add_assoc]; exact hc 3 (by omega)
      have x4 : wr.cell? ⟨b, off + k * 5 + 4, none⟩ = some (.int .i64 (f k 4)) := by rw [Nat.add_assoc]; exact hc 4 (by omega)
      have k0 : (0 : Int) ≤ (k : Int) := by omega
      have k3 : (k : Int) < (n : Int) := by omega
      obtain ⟨g0, g1, g2, g3, _⟩ := HK.out k hlt
      have HS := Lib.hid (show sidesTo f (k + 1) = sidesTo f k + (f k 2 + f k 3) from rfl)
      have ew : IntKind.i64.wrap (sidesTo f k + f k 2) = sidesTo f k + f k 2 := IntWalk.i64_in _ (by omega)
      have ew2 : IntKind.i64.wrap (sidesTo f k + f k 2 + f k 3) = sidesTo f k + f k 2 + f k 3 := IntWalk.i64_in _ (by omega)
      clear hc
      go_wp2_with fail
      go_quiet (fail)
      clear ew ew2
      go_wp2
      go_roundw
      case rel => exact ⟨k + 1, by omega, by go_num, by rw [HS.out]; congr 1; omega, ⟨hx.1, hx.2⟩, ⟨hb.os, hb.tape, hb.output, hb.size, hb.block⟩, h⟩
      case measure => simp [intOf]; omega
    · have k3 : ¬ (k : Int) < (n : Int) := by omega
      have HF := Lib.hid (show sidesTo f k - W - H = seam W H n f by rw [HE.out, show k = n by omega])
      go_wp2
      go_ret
      exact ⟨ret_int HF.out, hb⟩
set_option maxHeartbeats 8000000 in
theorem impl_lthread (W H : Int) (A : Option Addr) (n c : Nat) (f : Nat → Nat → Int) (k : Int) (B : Nat) (w : World) (h : RowP 5 w B A n c f) (hB : B ≤ w.heap.size) :
    Calls Try.prog 42 #[.agg #[.int .i64 W, .int .i64 H, .slice A n c], .int .i64 k] w fun e w' => e = .returned (.int .i64 (layoutThread W H n f k)) ∧ Below w.heap.size w w' := by
  have hb0 : Below w.heap.size w (w.alloc (.cells #[.int .i64 W, .int .i64 H, .slice A n c] 70)) := (Below.refl _ _).alloc (Nat.le_refl _) _
  have h0 : RowP 5 (w.alloc (.cells #[.int .i64 W, .int .i64 H, .slice A n c] 70)) B A n c f := h.keep fun p hp => hb0.cell (by omega)
  have hbd := seam_bd W H n f
  obtain ⟨m, hm⟩ : ∃ m, m = seam W H n f := ⟨_, rfl⟩
  have HM := Lib.hid hm
  rw [← hm] at hbd
  rcases (by omega : m < 0 ∨ 0 ≤ m) with q | q
  · have HE := Lib.hid (show layoutThread W H n f k = -1 by unfold layoutThread; rw [← hm, decide_eq_true q]; rfl)
    clear hm
    go_enter Try.func42, Try.ntmps42
    go_wp2_with fail
    refine (impl_seam W H A n c f B _ h0 (by simp; omega)).mono ?_
    rintro e w1 ⟨rfl, hb1⟩
    rw [← HM.out]
    have hb2 := hb0.trans (hb1.mono (by simp))
    clear hb0 hb1 h0
    go_wp2
    go_ret
    exact ⟨ret_int HE.out.symm, hb2⟩
  · rcases inB_or k 1 40 with ⟨hI, k1, k2⟩ | hI
    · have HE := Lib.hid (show layoutThread W H n f k = threadFor (m * k) by unfold layoutThread; rw [← hm, decide_eq_false (by omega), hI]; rfl)
      have hmk : 0 ≤ m * k ∧ m * k ≤ 11520 := ⟨Int.mul_nonneg q (by omega), Int.le_trans (Int.mul_le_mul hbd.2 k2 (by omega) (by omega)) (by omega)⟩
      clear hm
      go_enter Try.func42, Try.ntmps42
      go_wp2_with fail
      refine (impl_seam W H A n c f B _ h0 (by simp; omega)).mono ?_
      rintro e w1 ⟨rfl, hb1⟩
      rw [← HM.out]
      have hb2 := hb0.trans (hb1.mono (by simp))
      clear hb0 hb1 h0
      go_wp2_with (go_at_call 52; refine (within_any _ _ _ _).mono ?_; rintro e w' ⟨rfl, rfl⟩)
      refine (impl_thread (m * k) _).mono ?_
      rintro e w' ⟨rfl, rfl⟩
      go_wp2
      go_ret
      exact ⟨ret_int HE.out.symm, hb2⟩
    · have HE := Lib.hid (show layoutThread W H n f k = -1 by unfold layoutThread; rw [hI]; simp)
      clear hm
      go_enter Try.func42, Try.ntmps42
      go_wp2_with fail
      refine (impl_seam W H A n c f B _ h0 (by simp; omega)).mono ?_
      rintro e w1 ⟨rfl, hb1⟩
      rw [← HM.out]
      have hb2 := hb0.trans (hb1.mono (by simp))
      clear hb0 hb1 h0
      go_wp2_with (go_at_call 52; refine (within_any _ _ _ _).mono ?_; rintro e w' ⟨rfl, rfl⟩)
      go_ret
      exact ⟨ret_int HE.out.symm, hb2⟩
set_option maxHeartbeats 8000000 in
theorem spec_lthread (W H : Int) (A : Option Addr) (n c : Nat) (f : Nat → Nat → Int) (k : Int) (B : Nat) (w : World) (h : RowP 5 w B A n c f) (hB : B ≤ w.heap.size) :
    Calls Try.prog 40 #[.agg #[.int .i64 W, .int .i64 H, .slice A n c], .int .i64 k] w fun e w' => e = .returned (.int .i64 (layoutThread W H n f k)) ∧ Below w.heap.size w w' := by
  have hb0 : Below w.heap.size w (w.alloc (.cells #[.int .i64 W, .int .i64 H, .slice A n c] 70)) := (Below.refl _ _).alloc (Nat.le_refl _) _
  have h0 : RowP 5 (w.alloc (.cells #[.int .i64 W, .int .i64 H, .slice A n c] 70)) B A n c f := h.keep fun p hp => hb0.cell (by omega)
  have hbd := seam_bd W H n f
  obtain ⟨m, hm⟩ : ∃ m, m = seam W H n f := ⟨_, rfl⟩
  have HM := Lib.hid hm
  rw [← hm] at hbd
  rcases (by omega : m < 0 ∨ 0 ≤ m) with q | q
  · have HE := Lib.hid (show layoutThread W H n f k = -1 by unfold layoutThread; rw [← hm, decide_eq_true q]; rfl)
    clear hm
    go_enter Try.func40, Try.ntmps40
    go_wp2_with fail
    refine (spec_seam W H A n c f B _ h0 (by simp; omega)).mono ?_
    rintro e w1 ⟨rfl, hb1⟩
    rw [← HM.out]
    have hb2 := hb0.trans (hb1.mono (by simp))
    clear hb0 hb1 h0
    go_wp2
    go_ret
    exact ⟨ret_int HE.out.symm, hb2⟩
  · rcases inB_or k 1 40 with ⟨hI, k1, k2⟩ | hI
    · have HE := Lib.hid (show layoutThread W H n f k = threadFor (m * k) by unfold layoutThread; rw [← hm, decide_eq_false (by omega), hI]; rfl)
      have hmk : 0 ≤ m * k ∧ m * k ≤ 11520 := ⟨Int.mul_nonneg q (by omega), Int.le_trans (Int.mul_le_mul hbd.2 k2 (by omega) (by omega)) (by omega)⟩
      clear hm
      go_enter Try.func40, Try.ntmps40
      go_wp2_with fail
      refine (spec_seam W H A n c f B _ h0 (by simp; omega)).mono ?_
      rintro e w1 ⟨rfl, hb1⟩
      rw [← HM.out]
      have hb2 := hb0.trans (hb1.mono (by simp))
      clear hb0 hb1 h0
      go_wp2_with (go_at_call 50; refine (l01In_any _ _ _ _).mono ?_; rintro e w' ⟨rfl, rfl⟩)
      refine (spec_thread (m * k) _).mono ?_
      rintro e w' ⟨rfl, rfl⟩
      go_wp2
      go_ret
      exact ⟨ret_int HE.out.symm, hb2⟩
    · have HE := Lib.hid (show layoutThread W H n f k = -1 by unfold layoutThread; rw [hI]; simp)
      clear hm
      go_enter Try.func40, Try.ntmps40
      go_wp2_with fail
      refine (spec_seam W H A n c f B _ h0 (by simp; omega)).mono ?_
      rintro e w1 ⟨rfl, hb1⟩
      rw [← HM.out]
      have hb2 := hb0.trans (hb1.mono (by simp))
      clear hb0 hb1 h0
      go_wp2_with (go_at_call 50; refine (l01In_any _ _ _ _).mono ?_; rintro e w' ⟨rfl, rfl⟩)
      go_ret
      exact ⟨ret_int HE.out.symm, hb2⟩
end Go.Proofs.Ythenjmjnooaokaa
