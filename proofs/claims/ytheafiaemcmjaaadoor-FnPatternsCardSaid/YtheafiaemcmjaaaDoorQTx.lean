/- Contracts of isQuilt and QuiltText: the program's and the reference's. -/
import Derived.Test.YtheafiaemcmjaaaDoorTxC
import Derived.Test.YtheafiaemcmjaaaDoorPureQu
import Derived.Test.YtheafiaemcmjaaaDoorStrs
import Derived.Test.YtheafiaemcmjaaaDoorBoxV
namespace Go.Proofs.YtheafiaemcmjaaaDoor
open Go.ChangeShapes Go.WideShapes Go.ChangeAt Go.RowKit
set_option maxRecDepth 100000 in
set_option maxHeartbeats 8000000 in
theorem impl_isQuilt (W H : Int) (A : Option Addr) (n c : Nat) (f : Nat → Nat → Int) (B : Nat) (w : World) (h : RowP 2 w B A n c f) (hB : B ≤ w.heap.size) :
    Calls Tryd.prog 41 #[.agg #[.int .i64 W, .int .i64 H, .slice A n c], .int .i64 5] w fun e w' => e = .returned (.bool (quiltOk W H n f)) ∧ Below w.heap.size w w' := by
  have hcap := h.cap
  unfold maxLen at hcap
  have hb0 : Below w.heap.size w (w.alloc (.cells #[.int .i64 W, .int .i64 H, .slice A n c] 35)) := (Below.refl _ _).alloc (Nat.le_refl _) _
  have hx0 : BoxV (w.alloc (.cells #[.int .i64 W, .int .i64 H, .slice A n c] 35)) w.heap.size [.int .i64 W, .int .i64 H, .slice A n c] := boxV_new _ _ _
  rcases inB_or W 1 6 with ⟨hW, w1, w2⟩ | hW
  rotate_left
  · have HE := Lib.hid (show quiltOk W H n f = false by unfold quiltOk; rw [hW]; simp)
    go_enter Tryd.func41, Tryd.ntmps41
    go_wp2_with (go_at_call 64; refine (within_any _ _ _ _).mono ?_; rintro e w' ⟨rfl, rfl⟩)
    go_ret
    exact ⟨ret_bool HE.out.symm, hb0⟩
  rcases inB_or H 1 6 with ⟨hH, h1, h2⟩ | hH
  rotate_left
  · have HE := Lib.hid (show quiltOk W H n f = false by unfold quiltOk; rw [hH]; simp)
    go_enter Tryd.func41, Tryd.ntmps41
    go_wp2_with (go_at_call 64; refine (within_any _ _ _ _).mono ?_; rintro e w' ⟨rfl, rfl⟩)
    go_ret
    exact ⟨ret_bool HE.out.symm, hb0⟩
  have hm := mul36 w1 w2 h1 h2
  obtain ⟨M, hM⟩ : ∃ M, M = W * H := ⟨_, rfl⟩
  rw [← hM] at hm
  have hwr : IntKind.i64.wrap (W * H) = M := by rw [← hM]; exact IntWalk.i64_in _ (by omega)
  have hwr2 : W * H = M := hM.symm
  rcases (by omega : (n : Int) = M ∨ (n : Int) ≠ M) with hN | hN
  rotate_left
  · have HE := Lib.hid (show quiltOk W H n f = false by unfold quiltOk; rw [decide_eq_false (show ¬ (n : Int) = W * H by omega)]; simp)
    have t1 : ((n : Int) != M) = true := by simp; omega
    have t2 : ((n : Int) == M) = false := by simp; omega
    clear hM
    go_enter Tryd.func41, Tryd.ntmps41
    go_wp2_with (go_at_call 64; refine (within_any _ _ _ _).mono ?_; rintro e w' ⟨rfl, rfl⟩)
    go_ret
    exact ⟨ret_bool HE.out.symm, hb0⟩
  have HQ := Lib.hid (fun k (hk : k < n) => quilt_no (W := W) (H := H) (f := f) hk)
  have HY := Lib.hid (show allTo (fun k => spotOk (f k)) n = true → quiltOk W H n f = true by intro e; unfold quiltOk; rw [hW, hH, e, decide_eq_true (show (n : Int) = W * H by omega)]; rfl)
  have t1 : ((n : Int) != M) = false := by simp; omega
  have t2 : ((n : Int) == M) = true := by simp; omega
  have n36 : n ≤ 36 := by omega
  clear hM hN
  go_enter Tryd.func41, Tryd.ntmps41
  go_wp2_with (go_at_call 64; refine (within_any _ _ _ _).mono ?_; rintro e w' ⟨rfl, rfl⟩)
  clear hW hH t1 t2 hwr hwr2 hm
  go_loopw [6, 31] (fun _ i wr => ∃ k : Nat, k ≤ n ∧ i = .int .i64 k ∧ Hid (allTo (fun k => spotOk (f k)) k = true) ∧ BoxV wr w.heap.size [.int .i64 W, .int .i64 H, .slice A n c] ∧ Below w.heap.size w wr) (fun _ i _ => n - (intOf i).toNat)
  case atStart => exact ⟨0, by omega, rfl, Lib.hid rfl, hx0, hb0⟩
  case round =>
    clear hx0 hb0
    obtain ⟨k, hk, rfl, hP, hx, hb⟩ := hrel
    have hbw := hb.size
    have xz := hx.1
    have xc2 := hx.2 2 _ rfl
    by_cases hlt : k < n
    · have h2' : RowP 2 wr B A n c f := h.keep fun p hp => hb.cell (by omega)
      obtain ⟨b, off, rfl, hbB, hc⟩ := h2'.at_ hlt
      have x0 : wr.cell? ⟨b, off + k * 2, none⟩ = some (.int .i64 (f k 0)) := by exact hc 0 (by omega)
      have x1 : wr.cell? ⟨b, off + k * 2 + 1, none⟩ = some (.int .i64 (f k 1)) := by rw [Nat.add_assoc]; exact hc 1 (by omega)
      have k0 : (0 : Int) ≤ (k : Int) := by omega
      have k3 : (k : Int) < (n : Int) := by omega
      have NO := Lib.hid (HQ.out k hlt)
      have hb1 : Below w.heap.size w (wr.alloc (.cells #[.int .i64 (f k 0), .int .i64 (f k 1)] 64)) := hb.alloc hb.size _
      have hx1 : BoxV (wr.alloc (.cells #[.int .i64 (f k 0), .int .i64 (f k 1)] 64)) w.heap.size [.int .i64 W, .int .i64 H, .slice (some ⟨b, off, none⟩) n c] := hx.below ((Below.refl wr.heap.size wr).alloc (Nat.le_refl _) _) xz
      clear hc h2' hx
      rcases inB_or (f k 0) 0 5 with ⟨t0, u0, v0⟩ | t0
      rotate_left
      · have HE := Lib.hid (show quiltOk W H n f = false from NO.out (by unfold spotOk; rw [t0]; simp))
        go_wp2_with (go_at_call 64; refine (within_any _ _ _ _).mono ?_; rintro e w' ⟨rfl, rfl⟩)
        go_ret
        exact ⟨ret_bool HE.out.symm, hb1⟩
      rcases inB_or (f k 1) 0 7 with ⟨t1, u1, v1⟩ | t1
      rotate_left
      · have HE := Lib.hid (show quiltOk W H n f = false from NO.out (by unfold spotOk; rw [t1]; simp))
        go_wp2_with (go_at_call 64; refine (within_any _ _ _ _).mono ?_; rintro e w' ⟨rfl, rfl⟩)
        go_ret
        exact ⟨ret_bool HE.out.symm, hb1⟩
      have HC := Lib.hid (show allTo (fun k => spotOk (f k)) (k + 1) = true from allTo_step (p := fun k => spotOk (f k)) hP.out (by unfold spotOk; rw [t0, t1]; rfl))
      go_wp2_with (go_at_call 64; refine (within_any _ _ _ _).mono ?_; rintro e w' ⟨rfl, rfl⟩)
      go_roundw
      case rel => exact ⟨k + 1, by omega, by go_num, HC, hx1, hb1⟩
      case measure => simp [intOf]; omega
    · have HE := Lib.hid (show quiltOk W H n f = true from HY.out (by have e := hP.out; rw [show k = n by omega] at e; exact e))
      have k3 : ¬ (k : Int) < (n : Int) := by omega
      go_wp2
      go_ret
      exact ⟨ret_bool HE.out.symm, hb⟩
set_option maxRecDepth 100000 in
set_option maxHeartbeats 8000000 in
theorem spec_shape (W H : Int) (A : Option Addr) (n c : Nat) (f : Nat → Nat → Int) (B : Nat) (w : World) (h : RowP 2 w B A n c f) (hB : B ≤ w.heap.size) :
    Calls Tryd.prog 38 #[.agg #[.int .i64 W, .int .i64 H, .slice A n c]] w fun e w' => e = .returned (.bool (quiltOk W H n f)) ∧ Below w.heap.size w w' := by
  have hcap := h.cap
  unfold maxLen at hcap
  have hb0 : Below w.heap.size w (w.alloc (.cells #[.int .i64 W, .int .i64 H, .slice A n c] 35)) := (Below.refl _ _).alloc (Nat.le_refl _) _
  have hx0 : BoxV (w.alloc (.cells #[.int .i64 W, .int .i64 H, .slice A n c] 35)) w.heap.size [.int .i64 W, .int .i64 H, .slice A n c] := boxV_new _ _ _
  rcases inB_or W 1 6 with ⟨hW, w1, w2⟩ | hW
  rotate_left
  · have HE := Lib.hid (show quiltOk W H n f = false by unfold quiltOk; rw [hW]; simp)
    go_enter Tryd.func38, Tryd.ntmps38
    go_wp2_with (go_at_call 60; refine (l01In_any _ _ _ _).mono ?_; rintro e w' ⟨rfl, rfl⟩)
    go_ret
    exact ⟨ret_bool HE.out.symm, hb0⟩
  rcases inB_or H 1 6 with ⟨hH, h1, h2⟩ | hH
  rotate_left
  · have HE := Lib.hid (show quiltOk W H n f = false by unfold quiltOk; rw [hH]; simp)
    go_enter Tryd.func38, Tryd.ntmps38
    go_wp2_with (go_at_call 60; refine (l01In_any _ _ _ _).mono ?_; rintro e w' ⟨rfl, rfl⟩)
    go_ret
    exact ⟨ret_bool HE.out.symm, hb0⟩
  have hm := mul36 w1 w2 h1 h2
  obtain ⟨M, hM⟩ : ∃ M, M = W * H := ⟨_, rfl⟩
  rw [← hM] at hm
  have hwr : IntKind.i64.wrap (W * H) = M := by rw [← hM]; exact IntWalk.i64_in _ (by omega)
  have hwr2 : W * H = M := hM.symm
  rcases (by omega : (n : Int) = M ∨ (n : Int) ≠ M) with hN | hN
  rotate_left
  · have HE := Lib.hid (show quiltOk W H n f = false by unfold quiltOk; rw [decide_eq_false (show ¬ (n : Int) = W * H by omega)]; simp)
    have t1 : ((n : Int) != M) = true := by simp; omega
    have t2 : ((n : Int) == M) = false := by simp; omega
    clear hM
    go_enter Tryd.func38, Tryd.ntmps38
    go_wp2_with (go_at_call 60; refine (l01In_any _ _ _ _).mono ?_; rintro e w' ⟨rfl, rfl⟩)
    go_ret
    exact ⟨ret_bool HE.out.symm, hb0⟩
  have HQ := Lib.hid (fun k (hk : k < n) => quilt_no (W := W) (H := H) (f := f) hk)
  have HY := Lib.hid (show allTo (fun k => spotOk (f k)) n = true → quiltOk W H n f = true by intro e; unfold quiltOk; rw [hW, hH, e, decide_eq_true (show (n : Int) = W * H by omega)]; rfl)
  have t1 : ((n : Int) != M) = false := by simp; omega
  have t2 : ((n : Int) == M) = true := by simp; omega
  have n36 : n ≤ 36 := by omega
  clear hM hN
  go_enter Tryd.func38, Tryd.ntmps38
  go_wp2_with (go_at_call 60; refine (l01In_any _ _ _ _).mono ?_; rintro e w' ⟨rfl, rfl⟩)
  clear hW hH t1 t2 hwr hwr2 hm
  go_loopw [3] (fun i wr => ∃ k : Nat, k ≤ n ∧ i = .int .i64 k ∧ Hid (allTo (fun k => spotOk (f k)) k = true) ∧ BoxV wr w.heap.size [.int .i64 W, .int .i64 H, .slice A n c] ∧ Below w.heap.size w wr) (fun i _ => n - (intOf i).toNat)
  case atStart => exact ⟨0, by omega, rfl, Lib.hid rfl, hx0, hb0⟩
  case round =>
    clear hx0 hb0
    obtain ⟨k, hk, rfl, hP, hx, hb⟩ := hrel
    have hbw := hb.size
    have xz := hx.1
    have xc2 := hx.2 2 _ rfl
    by_cases hlt : k < n
    · have h2' : RowP 2 wr B A n c f := h.keep fun p hp => hb.cell (by omega)
      obtain ⟨b, off, rfl, hbB, hc⟩ := h2'.at_ hlt
      have x0 : wr.cell? ⟨b, off + k * 2, none⟩ = some (.int .i64 (f k 0)) := by exact hc 0 (by omega)
      have x1 : wr.cell? ⟨b, off + k * 2 + 1, none⟩ = some (.int .i64 (f k 1)) := by rw [Nat.add_assoc]; exact hc 1 (by omega)
      have k0 : (0 : Int) ≤ (k : Int) := by omega
      have k3 : (k : Int) < (n : Int) := by omega
      have NO := Lib.hid (HQ.out k hlt)
      have hb1 : Below w.heap.size w wr := hb
      have hx1 : BoxV wr w.heap.size [.int .i64 W, .int .i64 H, .slice (some ⟨b, off, none⟩) n c] := hx
      clear hc h2' hx
      rcases inB_or (f k 0) 0 5 with ⟨t0, u0, v0⟩ | t0
      rotate_left
      · have HE := Lib.hid (show quiltOk W H n f = false from NO.out (by unfold spotOk; rw [t0]; simp))
        go_wp2_with (go_at_call 60; refine (l01In_any _ _ _ _).mono ?_; rintro e w' ⟨rfl, rfl⟩)
        go_ret
        exact ⟨ret_bool HE.out.symm, hb1⟩
      rcases inB_or (f k 1) 0 7 with ⟨t1, u1, v1⟩ | t1
      rotate_left
      · have HE := Lib.hid (show quiltOk W H n f = false from NO.out (by unfold spotOk; rw [t1]; simp))
        go_wp2_with (go_at_call 60; refine (l01In_any _ _ _ _).mono ?_; rintro e w' ⟨rfl, rfl⟩)
        go_ret
        exact ⟨ret_bool HE.out.symm, hb1⟩
      have HC := Lib.hid (show allTo (fun k => spotOk (f k)) (k + 1) = true from allTo_step (p := fun k => spotOk (f k)) hP.out (by unfold spotOk; rw [t0, t1]; rfl))
      go_wp2_with (go_at_call 60; refine (l01In_any _ _ _ _).mono ?_; rintro e w' ⟨rfl, rfl⟩)
      go_roundw
      case rel => exact ⟨k + 1, by omega, by go_num, HC, hx1, hb1⟩
      case measure => simp [intOf]; omega
    · have HE := Lib.hid (show quiltOk W H n f = true from HY.out (by have e := hP.out; rw [show k = n by omega] at e; exact e))
      have k3 : ¬ (k : Int) < (n : Int) := by omega
      go_wp2
      go_ret
      exact ⟨ret_bool HE.out.symm, hb⟩
theorem letter_at (n : Nat) (h : n < 8) : (⟨#[97, 98, 99, 100, 101, 102, 103, 104]⟩ : ByteArray).extract n (n + 1) = strB [UInt8.ofNat (97 + n)] := by
  have : ∀ k : Fin 8, (⟨#[97, 98, 99, 100, 101, 102, 103, 104]⟩ : ByteArray).extract k.val (k.val + 1) = strB [UInt8.ofNat (97 + k.val)] := by decide +kernel
  exact this ⟨n, h⟩
set_option maxRecDepth 100000 in
set_option maxHeartbeats 8000000 in
theorem impl_quiltTx (W H : Int) (A : Option Addr) (n c : Nat) (f : Nat → Nat → Int) (B : Nat) (w : World) (h : RowP 2 w B A n c f) (hB : B ≤ w.heap.size) :
    Calls Tryd.prog 15 #[.agg #[.int .i64 W, .int .i64 H, .slice A n c]] w fun e w' => e = .returned (.string (strB (quiltTx W H n f))) ∧ Below w.heap.size w w' := by
  have hb0 : Below w.heap.size w (w.alloc (.cells #[.int .i64 W, .int .i64 H, .slice A n c] 35)) := (Below.refl _ _).alloc (Nat.le_refl _) _
  have hx0 : BoxV (w.alloc (.cells #[.int .i64 W, .int .i64 H, .slice A n c] 35)) w.heap.size [.int .i64 W, .int .i64 H, .slice A n c] := boxV_new _ _ _
  go_enter Tryd.func15, Tryd.ntmps15
  go_wp2_with fail
  refine (impl_isQuilt W H A n c f B _ (h.below' ((Below.refl w.heap.size w).alloc (Nat.le_refl _) _) hB) (by simp; omega)).mono ?_
  rintro e w1 ⟨rfl, hb1⟩
  have z1 := hb1.size
  have hx1 := hx0.below hb1 hx0.1
  have hb2 := hb0.trans (hb1.mono (by simp))
  clear hb1 hx0 hb0
  rcases (Bool.eq_false_or_eq_true (quiltOk W H n f)).symm with hO | hO
  · have HE := Lib.hid (quiltTx_no hO)
    rw [hO]
    go_wp2
    go_ret
    exact ⟨by rw [HE.out]; rfl, hb2⟩
  obtain ⟨w1', w6, h1', h6, hn0, n1, n36, hok⟩ := quilt_of hO
  clear hn0
  have HE := Lib.hid (show quiltTx W H n f = quiltHd W H ++ spotsTx f n by unfold quiltTx; rw [if_pos hO])
  have HOK := Lib.hid hok
  rw [hO]
  clear hO hok
  have xz := hx1.1
  have xc0 := hx1.2 0 _ rfl
  have xc1 := hx1.2 1 _ rfl
  have xc2 := hx1.2 2 _ rfl
  have w0 : 0 ≤ W := by omega
  have w9 : W ≤ 9 := by omega
  have h0 : 0 ≤ H := by omega
  have h9 : H ≤ 9 := by omega
  have g1 : (strB (figs W.toNat)).size = 1 := by rw [strB_size]; simp [figs]
  have g2 : (strB (figs H.toNat)).size = 1 := by rw [strB_size]; simp [figs]
  go_wp2_with fail
  go_quiet ((go_at_call 42; first | (with_reducible exact quiet_fmtI W _ _ w0 w9) | (with_reducible exact quiet_fmtI H _ _ h0 h9)))
  have HS0 := Lib.hid (show strB (figs W.toNat) ++ (⟨#[120]⟩ : ByteArray) ++ strB (figs H.toNat) ++ (⟨#[58]⟩ : ByteArray) = strB (quiltHd W H ++ spotsTx f 0) by simp only [quiltHd, spotsTx, List.append_nil, ← strB_app]; rfl)
  have hb3 : Below w.heap.size w (w1.drewN nq) := ⟨hb2.os, hb2.tape, hb2.output, hb2.size, hb2.block⟩
  clear xz xc0 xc1 hx1 hb2 g1 g2
  go_wp2_with fail
  clear xc2
  go_loopw [3, 5, 21] (fun s _ i wr => ∃ k : Nat, k ≤ n ∧ i = .int .i64 k ∧ s = .string (strB (quiltHd W H ++ spotsTx f k)) ∧ Below w.heap.size w wr) (fun _ _ i _ => n - (intOf i).toNat)
  case atStart => exact ⟨0, by omega, rfl, by rw [HS0.out], hb3⟩
  case round =>
    clear hb3
    obtain ⟨k, hk, rfl, rfl, hb⟩ := hrel
    have hbw := hb.size
    by_cases hlt : k < n
    · have h2' : RowP 2 wr B A n c f := h.keep fun p hp => hb.cell (by omega)
      obtain ⟨b, off, rfl, hbB, hc⟩ := h2'.at_ hlt
      have x0 : wr.cell? ⟨b, off + k * 2, none⟩ = some (.int .i64 (f k 0)) := by exact hc 0 (by omega)
      have x1 : wr.cell? ⟨b, off + k * 2 + 1, none⟩ = some (.int .i64 (f k 1)) := by rw [Nat.add_assoc]; exact hc 1 (by omega)
      obtain ⟨a0, a5, b0, b7⟩ := HOK.out k hlt
      have HS := Lib.hid (show quiltHd W H ++ spotsTx f (k + 1) = (quiltHd W H ++ spotsTx f k) ++ spotTx (f k) by simp only [spotsTx, List.append_assoc])
      have hlen : (quiltHd W H ++ spotsTx f k).length = 4 + 3 * k := by rw [List.length_append, quiltHd_len, spotsTx_len]
      obtain ⟨L, hL⟩ : ∃ L, L = quiltHd W H ++ spotsTx f k := ⟨_, rfl⟩
      rw [← hL] at HS hlen ⊢
      have gs : (strB L).size = 4 + 3 * k := by rw [strB_size, hlen]
      obtain ⟨q0, hq0⟩ : ∃ q, q = f k 0 := ⟨_, rfl⟩
      obtain ⟨m, hm⟩ : ∃ m : Nat, f k 1 = (m : Int) := ⟨(f k 1).toNat, by omega⟩
      have HT := Lib.hid (show spotTx (f k) = [32] ++ (figs q0.toNat ++ [UInt8.ofNat (97 + m)]) by unfold spotTx; rw [← hq0, hm, Int.toNat_natCast, List.append_assoc])
      rw [← hq0] at x0 a0 a5
      rw [hm] at x1 b0 b7
      have le := letter_at m (by omega)
      have q9 : q0 ≤ 9 := by omega
      have m8 : (m : Int) + 1 ≤ 8 := by omega
      have m1 : (m : Int) ≤ (m : Int) + 1 := by omega
      have mw : IntKind.i64.wrap ((m : Int) + 1) = (m : Int) + 1 := IntWalk.i64_in _ (by omega)
      have mt : ((m : Int) + 1).toNat = m + 1 := by omega
      obtain ⟨cl, hcl⟩ : ∃ cl, cl = UInt8.ofNat (97 + m) := ⟨_, rfl⟩
      rw [← hcl] at le HT
      clear hcl
      have ml : (strB [cl]).size = 1 := by rw [strB_size]; rfl
      have k0 : (0 : Int) ≤ (k : Int) := by omega
      have k3 : (k : Int) < (n : Int) := by omega
      have g1 : (strB (figs q0.toNat)).size = 1 := by rw [strB_size]; simp [figs]
      have hb4 := hb.alloc hb.size (.cells #[.int .i64 q0, .int .i64 (m : Int)] 64)
      clear hc h2' hL hq0 hm hlen hb
      go_wp2_with fail
      go_quiet ((go_at_call 42; (with_reducible exact quiet_fmtI q0 _ _ a0 q9)))
      have HR := Lib.hid (show strB L ++ ((⟨#[32]⟩ : ByteArray) ++ strB (figs q0.toNat) ++ strB [cl]) = strB (quiltHd W H ++ spotsTx f (k + 1)) by rw [HS.out, HT.out, ← strB_app, ← strB_app, ← strB_app]; simp only [strB_app, List.append_assoc]; rw [show (⟨#[32]⟩ : ByteArray) = strB [32] from rfl]; simp only [strB_app, List.append_assoc])
      have hb5 : Below w.heap.size w ((wr.alloc (.cells #[.int .i64 q0, .int .i64 (m : Int)] 64)).drewN nq) := ⟨hb4.os, hb4.tape, hb4.output, hb4.size, hb4.block⟩
      go_wp2
      go_roundw
      case rel => exact ⟨k + 1, by omega, by go_num, by rw [← HR.out], hb5⟩
      case measure => simp [intOf]; omega
    · have k3 : ¬ (k : Int) < (n : Int) := by omega
      have HF := Lib.hid (show quiltTx W H n f = quiltHd W H ++ spotsTx f k by rw [HE.out, show k = n by omega])
      go_wp2
      go_ret
      exact ⟨by rw [HF.out]; rfl, hb⟩
set_option maxRecDepth 100000 in
set_option maxHeartbeats 8000000 in
theorem spec_quiltTx (W H : Int) (A : Option Addr) (n c : Nat) (f : Nat → Nat → Int) (B : Nat) (w : World) (h : RowP 2 w B A n c f) (hB : B ≤ w.heap.size) :
    Calls Tryd.prog 13 #[.agg #[.int .i64 W, .int .i64 H, .slice A n c]] w fun e w' => e = .returned (.string (strB (quiltTx W H n f))) ∧ Below w.heap.size w w' := by
  have hb0 : Below w.heap.size w (w.alloc (.cells #[.int .i64 W, .int .i64 H, .slice A n c] 35)) := (Below.refl _ _).alloc (Nat.le_refl _) _
  have hx0 : BoxV (w.alloc (.cells #[.int .i64 W, .int .i64 H, .slice A n c] 35)) w.heap.size [.int .i64 W, .int .i64 H, .slice A n c] := boxV_new _ _ _
  go_enter Tryd.func13, Tryd.ntmps13
  go_wp2_with fail
  refine (spec_shape W H A n c f B _ (h.below' ((Below.refl w.heap.size w).alloc (Nat.le_refl _) _) hB) (by simp; omega)).mono ?_
  rintro e w1 ⟨rfl, hb1⟩
  have z1 : w.heap.size < w1.heap.size := by have := hb1.size; simp at this; omega
  have hx1 := hx0.below hb1 hx0.1
  have hb2 := hb0.trans (hb1.mono (by simp))
  clear hb1 hx0 hb0
  rcases (Bool.eq_false_or_eq_true (quiltOk W H n f)).symm with hO | hO
  · have HE := Lib.hid (quiltTx_no hO)
    rw [hO]
    go_wp2
    go_ret
    exact ⟨by rw [HE.out]; rfl, hb2⟩
  obtain ⟨w1', w6, h1', h6, hn0, n1, n36, hok⟩ := quilt_of hO
  clear hn0
  have HE := Lib.hid (show quiltTx W H n f = quiltHd W H ++ spotsTx f n by unfold quiltTx; rw [if_pos hO])
  have HOK := Lib.hid hok
  rw [hO]
  clear hO hok
  have xc0 := hx1.2 0 _ rfl
  have xc1 := hx1.2 1 _ rfl
  have xc2 := hx1.2 2 _ rfl
  have w0 : 0 ≤ W := by omega
  have w9 : W ≤ 9 := by omega
  have h0 : 0 ≤ H := by omega
  have h9 : H ≤ 9 := by omega
  have g1 : (strB (figs W.toNat)).size = 1 := by rw [strB_size]; simp [figs]
  have g2 : (strB (figs H.toNat)).size = 1 := by rw [strB_size]; simp [figs]
  clear hx1
  go_wp2_with fail
  go_region_held3 (fun w' => w'.cell? ⟨w.heap.size, 0, none⟩ = some (.int .i64 W) ∧ w'.cell? ⟨w.heap.size, 1, none⟩ = some (.int .i64 H) ∧ w'.cell? ⟨w.heap.size, 2, none⟩ = some (.slice A n c)) (first | go_keep | (exact ⟨s0, s1, s2⟩)) (first | (go_at_call 39; ((with_reducible refine (spec_fmtI W _ w0 w9).mono ?_); rintro e wc0 ⟨rfl, hbc0⟩); replace hbc0 := below_drew hbc0; obtain ⟨hcc0, hfc0⟩ := bcell hbc0; have zc0 := hbc0.size; have s0 := (hcc0 (w.heap.size) 0 (by omega)).trans xc0; have s1 := (hcc0 (w.heap.size) 1 (by omega)).trans xc1; have s2 := (hcc0 (w.heap.size) 2 (by omega)).trans xc2) | (go_at_call 39; ((with_reducible refine (spec_fmtI H _ h0 h9).mono ?_); rintro e wc1 ⟨rfl, hbc1⟩); obtain ⟨hcc1, hfc1⟩ := bcell hbc1; have zc1 := hbc1.size; have s0 := (hcc1 (w.heap.size) 0 (by omega)).trans s0; have s1 := (hcc1 (w.heap.size) 1 (by omega)).trans s1; have s2 := (hcc1 (w.heap.size) 2 (by omega)).trans s2))
  have HS0 := Lib.hid (show strB (figs W.toNat) ++ (⟨#[120]⟩ : ByteArray) ++ strB (figs H.toNat) ++ (⟨#[58]⟩ : ByteArray) = strB (quiltHd W H ++ spotsTx f 0) by simp only [quiltHd, spotsTx, List.append_nil, ← strB_app]; rfl)
  have hb3 := (hb2.trans (hbc0.mono hb2.size)).trans (hbc1.mono (by have := hb2.size; omega))
  have zz : w.heap.size < wc1.heap.size := by omega
  clear xc0 xc1 xc2 hb2 g1 g2 hcc0 hcc1 hfc0 hfc1 hbc0 hbc1 zc0 zc1 s0 s1
  go_wp2_with fail
  go_loopw [3, 4, 5] (fun s i _ wr => ∃ k : Nat, k ≤ n ∧ i = .int .i64 k ∧ s = .string (strB (quiltHd W H ++ spotsTx f k)) ∧ wr.cell? ⟨w.heap.size, 2, none⟩ = some (.slice A n c) ∧ w.heap.size < wr.heap.size ∧ Below w.heap.size w wr) (fun _ i _ _ => n - (intOf i).toNat)
  case atStart => exact ⟨0, by omega, rfl, by rw [HS0.out], s2, zz, hb3⟩
  case round =>
    clear hb3 s2 zz
    obtain ⟨k, hk, rfl, rfl, xc2, zz, hb⟩ := hrel
    have hbw := hb.size
    by_cases hlt : k < n
    · have h2' : RowP 2 wr B A n c f := h.keep fun p hp => hb.cell (by omega)
      obtain ⟨b, off, rfl, hbB, hc⟩ := h2'.at_ hlt
      have x0 : wr.cell? ⟨b, off + k * 2, none⟩ = some (.int .i64 (f k 0)) := by exact hc 0 (by omega)
      have x1 : wr.cell? ⟨b, off + k * 2 + 1, none⟩ = some (.int .i64 (f k 1)) := by rw [Nat.add_assoc]; exact hc 1 (by omega)
      obtain ⟨a0, a5, b0, b7⟩ := HOK.out k hlt
      have HS := Lib.hid (show quiltHd W H ++ spotsTx f (k + 1) = (quiltHd W H ++ spotsTx f k) ++ spotTx (f k) by simp only [spotsTx, List.append_assoc])
      have hlen : (quiltHd W H ++ spotsTx f k).length = 4 + 3 * k := by rw [List.length_append, quiltHd_len, spotsTx_len]
      obtain ⟨L, hL⟩ : ∃ L, L = quiltHd W H ++ spotsTx f k := ⟨_, rfl⟩
      rw [← hL] at HS hlen ⊢
      obtain ⟨S, hS⟩ : ∃ S, S = 4 + 3 * k := ⟨_, rfl⟩
      have gs : (strB L).size = S := by rw [strB_size, hlen, hS]
      have n1 : ¬ (9223372036854775807 < S + 1) := by omega
      have n2 : ¬ (9223372036854775807 < S + 1 + 1) := by omega
      have n3 : ¬ (9223372036854775807 < S + 1 + 1 + 1) := by omega
      clear hS
      obtain ⟨q0, hq0⟩ : ∃ q, q = f k 0 := ⟨_, rfl⟩
      obtain ⟨m, hm⟩ : ∃ m : Nat, f k 1 = (m : Int) := ⟨(f k 1).toNat, by omega⟩
      have HT := Lib.hid (show spotTx (f k) = [32] ++ (figs q0.toNat ++ [UInt8.ofNat (97 + m)]) by unfold spotTx; rw [← hq0, hm, Int.toNat_natCast, List.append_assoc])
      rw [← hq0] at x0 a0 a5
      rw [hm] at x1 b0 b7
      have le := letter_at m (by omega)
      have q9 : q0 ≤ 9 := by omega
      have m8 : (m : Int) + 1 ≤ 8 := by omega
      have m1 : (m : Int) ≤ (m : Int) + 1 := by omega
      have mw : IntKind.i64.wrap ((m : Int) + 1) = (m : Int) + 1 := IntWalk.i64_in _ (by omega)
      have mt : ((m : Int) + 1).toNat = m + 1 := by omega
      obtain ⟨cl, hcl⟩ : ∃ cl, cl = UInt8.ofNat (97 + m) := ⟨_, rfl⟩
      rw [← hcl] at le HT
      clear hcl
      have ml : (strB [cl]).size = 1 := by rw [strB_size]; rfl
      have k0 : (0 : Int) ≤ (k : Int) := by omega
      have k3 : (k : Int) < (n : Int) := by omega
      have g1 : (strB (figs q0.toNat)).size = 1 := by rw [strB_size]; simp [figs]
      have bl : b < wr.heap.size := by omega
      clear hc h2' hL hq0 hm hlen
      go_wp2_with fail
      go_region_held3 (fun w' => w'.cell? ⟨w.heap.size, 2, none⟩ = some (.slice (some ⟨b, off, none⟩) n c) ∧ w'.cell? ⟨b, off + k * 2, none⟩ = some (.int .i64 q0)) (first | go_keep | (exact ⟨s0, s1⟩)) (first | (go_at_call 39; ((with_reducible refine (spec_fmtI q0 _ a0 q9).mono ?_); rintro e wc0 ⟨rfl, hbc0⟩); replace hbc0 := below_drew hbc0; obtain ⟨hcc0, hfc0⟩ := bcell hbc0; have zc0 := hbc0.size; have s0 := (hcc0 (w.heap.size) 2 (by omega)).trans xc2; have s1 := (hcc0 b (off + k * 2) bl).trans x0))
      have HR := Lib.hid (show strB L ++ (⟨#[32]⟩ : ByteArray) ++ strB (figs q0.toNat) ++ strB [cl] = strB (quiltHd W H ++ spotsTx f (k + 1)) by rw [HS.out, HT.out]; rw [show (⟨#[32]⟩ : ByteArray) = strB [32] from rfl]; simp only [strB_app, List.append_assoc])
      have hb5 := hb.trans (hbc0.mono hb.size)
      have zz2 : w.heap.size < wc0.heap.size := by omega
      clear hb hbc0 hcc0 hfc0 xc2 x0 x1 s1
      go_wp2
      go_roundw
      case rel => exact ⟨k + 1, by omega, by go_num, by rw [← HR.out], s0, zz2, hb5⟩
      case measure => simp [intOf]; omega
    · have k3 : ¬ (k : Int) < (n : Int) := by omega
      have HF := Lib.hid (show quiltTx W H n f = quiltHd W H ++ spotsTx f k by rw [HE.out, show k = n by omega])
      go_wp2
      go_ret
      exact ⟨by rw [HF.out]; rfl, hb⟩
end Go.Proofs.YtheafiaemcmjaaaDoor
