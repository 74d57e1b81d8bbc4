/-
  The law FnPatterns: for every input the Go function returns true, and each argument reads afterwards as it read before.
  Conditions: none beyond the row's own.
-/
import Derived.Test.YtheafiaemcmjaaaDoorDrQ
import Derived.Test.YtheafiaemcmjaaaDoorSame
import Derived.Test.YtheafiaemcmjaaaDoorRqI
import Derived.Test.YtheafiaemcmjaaaDoorRbI
import Derived.Test.YtheafiaemcmjaaaDoorPurePt
import Derived.Test.YtheafiaemcmjaaaDoorCode
import Derived.Test.YtheafiaemcmjaaaDoorWrap
import Derived.Test.YtheafiaemcmjaaaDoorBoxV
import Derived.Test.YtheafiaemcmjaaaDoorTie
import Derived.Test.YtheafiaemcmjaaaDoorCards
import Derived.ChangeOld
import Derived.Carry
import Derived.Lay
import Derived.LaidMore
import Derived.SevenTiedAt
import Derived.Stop.Joined
namespace Go.Proofs.YtheafiaemcmjaaaDoor.fnPatterns
open Go.ChangeShapes Go.WideShapes Go.ChangeAt Go.RowKit Go.Joins
open Go.ChangeMaps (open_string shut_string)
set_option linter.unusedVariables false

theorem own : ownKnob Tryd.prog.godebug = none := by kernel_rfl
theorem laidOut : laidOutB Tryd.prog = true := by kernel_rfl

set_option maxRecDepth 100000 in
set_option maxHeartbeats 16000000 in
theorem walk (a0 : Option Addr) (l0 c0 : Nat) (z0 : List Int) (w : World) (mx : Int) (hmx : w.cell? ⟨0, 0, none⟩ = some (.int .i64 mx)) (w0 : RowI .u8 w w.heap.size a0 l0 c0 z0) :
    Calls Tryd.prog 8 #[.slice a0 l0 c0] w fun e w' => e = .returned (.bool true) ∧ Below w.heap.size w w' := by
  have hcap := w0.cap
  unfold maxLen at hcap
  rcases (by omega : 1048576 < (l0 : Int) ∨ l0 ≤ 1048576) with hbig | hbig
  · have d0 : decide (1048576 < (l0 : Int)) = true := decide_eq_true hbig
    go_enter Tryd.func8, Tryd.ntmps8
    go_wp2_with (go_at_call 30; refine (big_any a0 l0 c0 _ (by omega)).mono ?_; rintro e w' ⟨rfl, rfl⟩; rw [d0])
    go_ret
    exact ⟨rfl, Below.refl _ _⟩
  have d0 : decide (1048576 < (l0 : Int)) = false := decide_eq_false (by omega)
  have hmz : 0 < w.heap.size := World.block_lt_of_cell? w _ hmx
  have HMX := Lib.hid hmx
  clear hmx
  go_enter Tryd.func8, Tryd.ntmps8
  go_wp2_with fail
  refine (big_any a0 l0 c0 _ (by omega)).mono ?_
  rintro e w' ⟨rfl, rfl⟩
  rw [d0]
  go_wp2_with fail
  refine (drawBlock_any a0 l0 c0 z0 w w0 hbig).mono ?_
  rintro e x1 ⟨S, gB, cB, f, rfl, S1, S4, hOK, oB, b1⟩
  have HBK := Lib.hid (block_back S1 S4 hOK)
  have HBM := Lib.hid (block_more S1 S4 hOK)
  have hm1 : 1 ≤ S * S := by have := Nat.mul_le_mul S1 S1; omega
  obtain ⟨M, hM⟩ : ∃ M, M = S * S := ⟨_, rfl⟩
  rw [← hM] at oB hOK HBK HBM hm1 ⊢
  have HM := Lib.hid hM
  have M16 : M ≤ 16 := by rcases (by omega : S = 1 ∨ S = 2 ∨ S = 3 ∨ S = 4) with e | e | e | e <;> subst e <;> omega
  have HOK := Lib.hid hOK
  have HWB := Lib.hid (show ∀ i, i < M → ∀ j, j < 3 → (Lit.int .i64 (f i j)).wf = true from fun i hi j hj => cell_wf (hOK i hi) hj)
  clear hM hOK
  obtain ⟨y1, hw1⟩ : ∃ y, y = x1.alloc (.cells #[.int .i64 S, .slice (some ⟨gB, 0, none⟩) M cB] 46) := ⟨_, rfl⟩
  have n1 : Below x1.heap.size x1 y1 := by rw [hw1]; exact (Below.refl _ _).alloc (Nat.le_refl _) _
  have kB : BoxV y1 x1.heap.size [.int .i64 S, .slice (some ⟨gB, 0, none⟩) M cB] := by rw [hw1]; exact boxV_new _ _ _
  go_wp2_with fail
  rw [← hw1]
  clear hw1
  have e1 := n1.size
  have bn1 : Below w.heap.size w y1 := b1.trans (n1.mono (by have := b1.size; omega))
  replace oB := oB.keep n1
  refine (impl_blockTx S (some ⟨gB, 0, none⟩) M cB f _ _ (oB.rowP HWB.out) (Nat.le_refl _)).mono ?_
  rintro e x2 ⟨rfl, h2⟩
  have b2 : Below w.heap.size w x2 := bn1.trans (h2.mono (by have := bn1.size; omega))
  replace kB := kB.below h2 (by have := kB.1; omega)
  replace oB := oB.keep h2
  obtain ⟨T, hT⟩ : ∃ T, T = blockTx S M f := ⟨_, rfl⟩
  rw [← hT] at HBK HBM ⊢
  have hTl : T.length ≤ 64 := (readB_n HBK.out.1).2
  obtain ⟨tl, htl⟩ : ∃ q, q = T.length := ⟨_, rfl⟩
  have gsT : (strB T).size = tl := by rw [strB_size, htl]
  have gsT2 : tl ≤ 64 := by omega
  clear hT htl
  have kB_z := kB.1
  have kB_0 := kB.2 0 _ rfl
  have kB_1 := kB.2 1 _ rfl
  go_wp2_with fail
  clear kB_z kB_0 kB_1
  refine (impl_readB T mx _ (by omega) ((b2.cell (p := ⟨0, 0, none⟩) (by show 0 < w.heap.size; exact hmz)).trans HMX.out)).mono ?_
  rintro e x3 ⟨AD, cD, rfl, oD, h3⟩
  have b3 : Below w.heap.size w x3 := b2.trans (h3.mono (by have := b2.size; omega))
  replace kB := kB.below h3 (by have := kB.1; omega)
  replace oB := oB.keep h3
  rw [HBK.out.1, HBK.out.2.1, HBK.out.2.2.1]
  rw [HBK.out.2.2.1] at oD
  replace oD := oD.congr (f' := f) (by decide) (fun i hi j hj => HBK.out.2.2.2 i hi j hj)
  have kB_z := kB.1
  have kB_0 := kB.2 0 _ rfl
  have kB_1 := kB.2 1 _ rfl
  obtain ⟨y3, hw3⟩ : ∃ y, y = x3.alloc (.cells #[.int .i64 S, .slice AD M cD] 46) := ⟨_, rfl⟩
  have n3 : Below x3.heap.size x3 y3 := by rw [hw3]; exact (Below.refl _ _).alloc (Nat.le_refl _) _
  have kD : BoxV y3 x3.heap.size [.int .i64 S, .slice AD M cD] := by rw [hw3]; exact boxV_new _ _ _
  go_wp2_with fail
  rw [← hw3]
  clear hw3
  clear kB_z kB_0 kB_1
  have e3 := n3.size
  have bn3 : Below w.heap.size w y3 := b3.trans (n3.mono (by have := b3.size; omega))
  replace kB := kB.below n3 (by have := kB.1; omega)
  replace oB := oB.keep n3
  replace oD := oD.keep n3
  rw [show strB T ++ (⟨#[44, 48]⟩ : ByteArray) = strB (T ++ [44, 48]) from strB_app T [44, 48]]
  refine (impl_readB (T ++ [44, 48]) mx _ (by rw [List.length_append]; simp; omega) ((bn3.cell (p := ⟨0, 0, none⟩) (by show 0 < w.heap.size; exact hmz)).trans HMX.out)).mono ?_
  rintro e x4 ⟨A7, c7, rfl, o7, h4⟩
  have b4 : Below w.heap.size w x4 := bn3.trans (h4.mono (by have := bn3.size; omega))
  replace kB := kB.below h4 (by have := kB.1; omega)
  replace kD := kD.below h4 (by have := kD.1; omega)
  replace oB := oB.keep h4
  replace oD := oD.keep h4
  rw [HBM.out]
  clear o7
  obtain ⟨s7, hs7⟩ : ∃ q, q = rbS (T ++ [44, 48]) := ⟨_, rfl⟩
  obtain ⟨nn7, hn7⟩ : ∃ q, q = rbN (T ++ [44, 48]) := ⟨_, rfl⟩
  rw [← hs7, ← hn7]
  clear hs7 hn7
  have kB_z := kB.1
  have kB_0 := kB.2 0 _ rfl
  have kB_1 := kB.2 1 _ rfl
  have kD_z := kD.1
  have kD_0 := kD.2 0 _ rfl
  have kD_1 := kD.2 1 _ rfl
  obtain ⟨y4, hw4⟩ : ∃ y, y = x4.alloc (.cells #[.int .i64 s7, .slice A7 nn7 c7] 46) := ⟨_, rfl⟩
  have n4 : Below x4.heap.size x4 y4 := by rw [hw4]; exact (Below.refl _ _).alloc (Nat.le_refl _) _
  have k7 : BoxV y4 x4.heap.size [.int .i64 s7, .slice A7 nn7 c7] := by rw [hw4]; exact boxV_new _ _ _
  go_wp2_with fail
  rw [← hw4]
  clear hw4
  clear kB_z kB_0 kB_1
  clear kD_z kD_0 kD_1
  have e4 := n4.size
  have bn4 : Below w.heap.size w y4 := b4.trans (n4.mono (by have := b4.size; omega))
  replace kB := kB.below n4 (by have := kB.1; omega)
  replace kD := kD.below n4 (by have := kD.1; omega)
  replace oB := oB.keep n4
  replace oD := oD.keep n4
  clear k7
  refine (drawQuilt_any a0 l0 c0 z0 _ ((w0.keep fun p hp => bn4.cell hp).more bn4.size) hbig).mono ?_
  rintro e x5 ⟨W, H, N, gQ, cQ, q, K, A2, c2, rfl, K1, hQO, oQ, h5⟩
  have b5 : Below w.heap.size w x5 := bn4.trans (h5.mono (by have := bn4.size; omega))
  replace kB := kB.below h5 (by have := kB.1; omega)
  replace kD := kD.below h5 (by have := kD.1; omega)
  replace oB := oB.keep h5
  replace oD := oD.keep h5
  have HQB := Lib.hid (quilt_back hQO)
  have HQM := Lib.hid (quilt_more hQO 32)
  have hN1 : 1 ≤ N := (quilt_of hQO).n1
  have hN36 : N ≤ 36 := (quilt_of hQO).n36
  have HQR := Lib.hid (quilt_of hQO)
  have HWQ := Lib.hid (show ∀ i, i < N → ∀ j, j < 2 → (Lit.int .i64 (q i j)).wf = true from fun i hi j hj => WalkArith.wf_i64 (by
    have := HQR.out.ok i hi
    rcases (by omega : j = 0 ∨ j = 1) with e | e <;> subst e <;> omega))
  clear hQO
  have kB_z := kB.1
  have kB_0 := kB.2 0 _ rfl
  have kB_1 := kB.2 1 _ rfl
  have kD_z := kD.1
  have kD_0 := kD.2 0 _ rfl
  have kD_1 := kD.2 1 _ rfl
  obtain ⟨y5, hw5⟩ : ∃ y, y = x5.alloc (.cells #[.int .i64 W, .int .i64 H, .slice (some ⟨gQ, 0, none⟩) N cQ] 35) := ⟨_, rfl⟩
  have n5 : Below x5.heap.size x5 y5 := by rw [hw5]; exact (Below.refl _ _).alloc (Nat.le_refl _) _
  have kQ : BoxV y5 x5.heap.size [.int .i64 W, .int .i64 H, .slice (some ⟨gQ, 0, none⟩) N cQ] := by rw [hw5]; exact boxV_new _ _ _
  go_wp2_with fail
  rw [← hw5]
  clear hw5
  clear kB_z kB_0 kB_1
  clear kD_z kD_0 kD_1
  have e5 := n5.size
  have bn5 : Below w.heap.size w y5 := b5.trans (n5.mono (by have := b5.size; omega))
  replace kB := kB.below n5 (by have := kB.1; omega)
  replace kD := kD.below n5 (by have := kD.1; omega)
  replace oB := oB.keep n5
  replace oD := oD.keep n5
  replace oQ := oQ.keep n5
  refine (impl_quiltTx W H (some ⟨gQ, 0, none⟩) N cQ q _ _ (oQ.rowP HWQ.out) (Nat.le_refl _)).mono ?_
  rintro e x6 ⟨rfl, h6⟩
  have b6 : Below w.heap.size w x6 := bn5.trans (h6.mono (by have := bn5.size; omega))
  replace kB := kB.below h6 (by have := kB.1; omega)
  replace kD := kD.below h6 (by have := kD.1; omega)
  replace kQ := kQ.below h6 (by have := kQ.1; omega)
  replace oB := oB.keep h6
  replace oD := oD.keep h6
  replace oQ := oQ.keep h6
  obtain ⟨U, hU⟩ : ∃ U, U = quiltTx W H N q := ⟨_, rfl⟩
  rw [← hU] at HQB HQM ⊢
  have hUl : U.length = 4 + 3 * N := HQB.out.2.2.2.2.2
  obtain ⟨ul, hul⟩ : ∃ q, q = U.length := ⟨_, rfl⟩
  have gsU : (strB U).size = ul := by rw [strB_size, hul]
  have gsU2 : ul ≤ 112 := by omega
  have HUL := Lib.hid (show ul = 4 + 3 * N by omega)
  have HUL0 := Lib.hid hUl
  clear hU hul hUl
  have kB_z := kB.1
  have kB_0 := kB.2 0 _ rfl
  have kB_1 := kB.2 1 _ rfl
  have kD_z := kD.1
  have kD_0 := kD.2 0 _ rfl
  have kD_1 := kD.2 1 _ rfl
  have kQ_z := kQ.1
  have kQ_0 := kQ.2 0 _ rfl
  have kQ_1 := kQ.2 1 _ rfl
  have kQ_2 := kQ.2 2 _ rfl
  go_wp2_with fail
  clear kB_z kB_0 kB_1
  clear kD_z kD_0 kD_1
  clear kQ_z kQ_0 kQ_1 kQ_2
  refine (impl_readQ U mx _ (by have := HUL0.out; omega) ((b6.cell (p := ⟨0, 0, none⟩) (by show 0 < w.heap.size; exact hmz)).trans HMX.out)).mono ?_
  rintro e x7 ⟨AR, cR, rfl, oR, h7⟩
  have b7 : Below w.heap.size w x7 := b6.trans (h7.mono (by have := b6.size; omega))
  replace kB := kB.below h7 (by have := kB.1; omega)
  replace kD := kD.below h7 (by have := kD.1; omega)
  replace kQ := kQ.below h7 (by have := kQ.1; omega)
  replace oB := oB.keep h7
  replace oD := oD.keep h7
  replace oQ := oQ.keep h7
  rw [HQB.out.1, HQB.out.2.1, HQB.out.2.2.1, HQB.out.2.2.2.1]
  rw [HQB.out.2.2.2.1] at oR
  replace oR := oR.congr (f' := q) (by decide) (fun i hi j hj => by
    have := HQB.out.2.2.2.2.1 i hi
    rcases (by omega : j = 0 ∨ j = 1) with e | e <;> subst e
    · exact this.1
    · exact this.2)
  obtain ⟨gR, rfl⟩ := oR.some_ hN1
  have kB_z := kB.1
  have kB_0 := kB.2 0 _ rfl
  have kB_1 := kB.2 1 _ rfl
  have kD_z := kD.1
  have kD_0 := kD.2 0 _ rfl
  have kD_1 := kD.2 1 _ rfl
  have kQ_z := kQ.1
  have kQ_0 := kQ.2 0 _ rfl
  have kQ_1 := kQ.2 1 _ rfl
  have kQ_2 := kQ.2 2 _ rfl
  obtain ⟨y7, hw7⟩ : ∃ y, y = x7.alloc (.cells #[.int .i64 W, .int .i64 H, .slice (some ⟨gR, 0, none⟩) N cR] 35) := ⟨_, rfl⟩
  have n7 : Below x7.heap.size x7 y7 := by rw [hw7]; exact (Below.refl _ _).alloc (Nat.le_refl _) _
  have kR : BoxV y7 x7.heap.size [.int .i64 W, .int .i64 H, .slice (some ⟨gR, 0, none⟩) N cR] := by rw [hw7]; exact boxV_new _ _ _
  go_wp2_with fail
  rw [← hw7]
  clear hw7
  clear kB_z kB_0 kB_1
  clear kD_z kD_0 kD_1
  clear kQ_z kQ_0 kQ_1 kQ_2
  have e7 := n7.size
  have bn7 : Below w.heap.size w y7 := b7.trans (n7.mono (by have := b7.size; omega))
  replace kB := kB.below n7 (by have := kB.1; omega)
  replace kD := kD.below n7 (by have := kD.1; omega)
  replace kQ := kQ.below n7 (by have := kQ.1; omega)
  replace oB := oB.keep n7
  replace oD := oD.keep n7
  replace oQ := oQ.keep n7
  replace oR := oR.keep n7
  rw [show strB U ++ (⟨#[32]⟩ : ByteArray) = strB (U ++ [32]) from strB_app U [32]]
  refine (impl_readQ (U ++ [32]) mx _ (by have := HUL0.out; rw [List.length_append]; simp; omega) ((bn7.cell (p := ⟨0, 0, none⟩) (by show 0 < w.heap.size; exact hmz)).trans HMX.out)).mono ?_
  rintro e x8 ⟨A8, c8, rfl, o8, h8⟩
  have b8 : Below w.heap.size w x8 := bn7.trans (h8.mono (by have := bn7.size; omega))
  replace kB := kB.below h8 (by have := kB.1; omega)
  replace kD := kD.below h8 (by have := kD.1; omega)
  replace kQ := kQ.below h8 (by have := kQ.1; omega)
  replace kR := kR.below h8 (by have := kR.1; omega)
  replace oB := oB.keep h8
  replace oD := oD.keep h8
  replace oQ := oQ.keep h8
  replace oR := oR.keep h8
  rw [HQM.out]
  clear o8
  obtain ⟨s8, hs8⟩ : ∃ p, p = rW (U ++ [32]) := ⟨_, rfl⟩
  obtain ⟨t8, ht8⟩ : ∃ p, p = rH (U ++ [32]) := ⟨_, rfl⟩
  obtain ⟨nn8, hn8⟩ : ∃ p, p = rN (U ++ [32]) := ⟨_, rfl⟩
  rw [← hs8, ← ht8, ← hn8]
  clear hs8 ht8 hn8
  have kB_z := kB.1
  have kB_0 := kB.2 0 _ rfl
  have kB_1 := kB.2 1 _ rfl
  have kD_z := kD.1
  have kD_0 := kD.2 0 _ rfl
  have kD_1 := kD.2 1 _ rfl
  have kQ_z := kQ.1
  have kQ_0 := kQ.2 0 _ rfl
  have kQ_1 := kQ.2 1 _ rfl
  have kQ_2 := kQ.2 2 _ rfl
  have kR_z := kR.1
  have kR_0 := kR.2 0 _ rfl
  have kR_1 := kR.2 1 _ rfl
  have kR_2 := kR.2 2 _ rfl
  obtain ⟨y8, hw8⟩ : ∃ y, y = x8.alloc (.cells #[.int .i64 s8, .int .i64 t8, .slice A8 nn8 c8] 35) := ⟨_, rfl⟩
  have n8 : Below x8.heap.size x8 y8 := by rw [hw8]; exact (Below.refl _ _).alloc (Nat.le_refl _) _
  have k8 : BoxV y8 x8.heap.size [.int .i64 s8, .int .i64 t8, .slice A8 nn8 c8] := by rw [hw8]; exact boxV_new _ _ _
  have f0 := HOK.out 0 (by omega)
  have g0 := oB.cellAt (i := 0) (show 0 < M by omega) (show 0 < 3 by omega)
  have g1 := oB.cellAt (i := 0) (show 0 < M by omega) (show 1 < 3 by omega)
  have g2 := oB.cellAt (i := 0) (show 0 < M by omega) (show 2 < 3 by omega)
  simp only [Nat.zero_mul, Nat.add_zero, Nat.zero_add] at g0 g1 g2
  have gz := oB.ge
  have gM : (0 : Int) < (M : Int) := by omega
  have HF0 := Lib.hid f0
  clear f0
  go_wp2_with fail
  rw [← hw8]
  clear hw8
  clear kB_z kB_0 kB_1
  clear kD_z kD_0 kD_1
  clear kQ_z kQ_0 kQ_1 kQ_2
  clear kR_z kR_0 kR_1 kR_2
  have e8 := n8.size
  have bn8 : Below w.heap.size w y8 := b8.trans (n8.mono (by have := b8.size; omega))
  replace kB := kB.below n8 (by have := kB.1; omega)
  replace kD := kD.below n8 (by have := kD.1; omega)
  replace kQ := kQ.below n8 (by have := kQ.1; omega)
  replace kR := kR.below n8 (by have := kR.1; omega)
  replace oB := oB.keep n8
  replace oD := oD.keep n8
  replace oQ := oQ.keep n8
  replace oR := oR.keep n8
  clear k8
  clear g0 g1 g2 gz gM
  refine (spec_cellTx (f 0) _).mono ?_
  rintro e x9 ⟨rfl, h9⟩
  have b9 : Below w.heap.size w x9 := bn8.trans (h9.mono (by have := bn8.size; omega))
  replace kB := kB.below h9 (by have := kB.1; omega)
  replace kD := kD.below h9 (by have := kD.1; omega)
  replace kQ := kQ.below h9 (by have := kQ.1; omega)
  replace kR := kR.below h9 (by have := kR.1; omega)
  replace oB := oB.keep h9
  replace oD := oD.keep h9
  replace oQ := oQ.keep h9
  replace oR := oR.keep h9
  have kB_z := kB.1
  have kB_0 := kB.2 0 _ rfl
  have kB_1 := kB.2 1 _ rfl
  have kD_z := kD.1
  have kD_0 := kD.2 0 _ rfl
  have kD_1 := kD.2 1 _ rfl
  have kQ_z := kQ.1
  have kQ_0 := kQ.2 0 _ rfl
  have kQ_1 := kQ.2 1 _ rfl
  have kQ_2 := kQ.2 2 _ rfl
  have kR_z := kR.1
  have kR_0 := kR.2 0 _ rfl
  have kR_1 := kR.2 1 _ rfl
  have kR_2 := kR.2 2 _ rfl
  go_wp2_with fail
  clear kB_z kB_0 kB_1
  clear kD_z kD_0 kD_1
  clear kQ_z kQ_0 kQ_1 kQ_2
  clear kR_z kR_0 kR_1 kR_2
  refine (impl_readCell (cellTx (f 0)) _).mono ?_
  rintro e x10 ⟨rfl, h10⟩
  have b10 : Below w.heap.size w x10 := b9.trans (h10.mono (by have := b9.size; omega))
  replace kB := kB.below h10 (by have := kB.1; omega)
  replace kD := kD.below h10 (by have := kD.1; omega)
  replace kQ := kQ.below h10 (by have := kQ.1; omega)
  replace kR := kR.below h10 (by have := kR.1; omega)
  replace oB := oB.keep h10
  replace oD := oD.keep h10
  replace oQ := oQ.keep h10
  replace oR := oR.keep h10
  have HRY := Lib.hid (read_yes HF0.out rfl)
  rw [HRY.out.1, HRY.out.2.1, HRY.out.2.2.1, HRY.out.2.2.2]
  have e1N : ((N : Int) == (N : Int)) = true := by simp
  have e2N : ((N : Int) != (N : Int)) = false := by simp
  have kB_z := kB.1
  have kB_0 := kB.2 0 _ rfl
  have kB_1 := kB.2 1 _ rfl
  have kD_z := kD.1
  have kD_0 := kD.2 0 _ rfl
  have kD_1 := kD.2 1 _ rfl
  have kQ_z := kQ.1
  have kQ_0 := kQ.2 0 _ rfl
  have kQ_1 := kQ.2 1 _ rfl
  have kQ_2 := kQ.2 2 _ rfl
  have kR_z := kR.1
  have kR_0 := kR.2 0 _ rfl
  have kR_1 := kR.2 1 _ rfl
  have kR_2 := kR.2 2 _ rfl
  obtain ⟨y10, hw10⟩ : ∃ y, y = x10.alloc (.cells #[.int .i64 (f 0 0), .int .i64 (f 0 1), .int .i64 (f 0 2)] 23) := ⟨_, rfl⟩
  have n10 : Below x10.heap.size x10 y10 := by rw [hw10]; exact (Below.refl _ _).alloc (Nat.le_refl _) _
  have kC : BoxV y10 x10.heap.size [.int .i64 (f 0 0), .int .i64 (f 0 1), .int .i64 (f 0 2)] := by rw [hw10]; exact boxV_new _ _ _
  go_wp2_with fail
  rw [← hw10]
  clear hw10
  clear kB_z kB_0 kB_1
  clear kD_z kD_0 kD_1
  clear kQ_z kQ_0 kQ_1 kQ_2
  clear kR_z kR_0 kR_1 kR_2
  have e10 := n10.size
  have bn10 : Below w.heap.size w y10 := b10.trans (n10.mono (by have := b10.size; omega))
  replace kB := kB.below n10 (by have := kB.1; omega)
  replace kD := kD.below n10 (by have := kD.1; omega)
  replace kQ := kQ.below n10 (by have := kQ.1; omega)
  replace kR := kR.below n10 (by have := kR.1; omega)
  replace oB := oB.keep n10
  replace oD := oD.keep n10
  replace oQ := oQ.keep n10
  replace oR := oR.keep n10
  have bY := bn10
  go_loopw [18] (fun kv wr => ∃ k : Nat, k ≤ N ∧ kv = .int .i64 k ∧ Below y10.heap.size y10 wr) (fun kv _ => N - (intOf kv).toNat)
  case atStart => exact ⟨0, by omega, rfl, Below.refl _ _⟩
  case round =>
    obtain ⟨k, hk, rfl, hb⟩ := hrel
    have hbz := hb.size
    have rkB := kB.below hb kB.1
    have rkD := kD.below hb kD.1
    have rkQ := kQ.below hb kQ.1
    have rkR := kR.below hb kR.1
    have rkC := kC.below hb kC.1
    have sB := oB.keep hb
    have sD := oD.keep hb
    have sQ := oQ.keep hb
    have sR := oR.keep hb
    have bwr : Below w.heap.size w wr := bY.trans (hb.mono bY.size)
    by_cases hlt : k < N
    · have k0 : (0 : Int) ≤ (k : Int) := by omega
      have k3 : (k : Int) < (N : Int) := by omega
      have u0 : wr.cell? ⟨gR, k * 2, none⟩ = some (.int .i64 (q k 0)) := sR.cellAt (j := 0) hlt (by omega)
      have u1 : wr.cell? ⟨gR, k * 2 + 1, none⟩ = some (.int .i64 (q k 1)) := sR.cellAt (j := 1) hlt (by omega)
      have v0 : wr.cell? ⟨gQ, k * 2, none⟩ = some (.int .i64 (q k 0)) := sQ.cellAt (j := 0) hlt (by omega)
      have v1 : wr.cell? ⟨gQ, k * 2 + 1, none⟩ = some (.int .i64 (q k 1)) := sQ.cellAt (j := 1) hlt (by omega)
      have x2 := rkR.2 2 _ rfl
      have y2 := rkQ.2 2 _ rfl
      go_wp2_with fail
      go_region
      clear u0 u1 v0 v1 x2 y2
      go_wp2
      go_roundw
      case rel => exact ⟨k + 1, by omega, by go_num, hb.drew⟩
      case measure => simp [intOf]; omega
    · have k3 : ¬ (k : Int) < (N : Int) := by omega
      have hl2 : (strB U).size = 4 + 3 * N := by rw [gsU]; exact HUL.out
      clear gsU
      have y2 := rkQ.2 2 _ rfl
      have K0 : (0 : Int) < (K : Int) := by omega
      have gM : (0 : Int) < (M : Int) := by omega
      have gM2 : 0 < M := by omega
      have gM3 : M ≠ 0 := by omega
      have wm : IntKind.i64.wrap (3 * (N : Int)) = 3 * (N : Int) := IntWalk.i64_in _ (by omega)
      have wa : IntKind.i64.wrap (4 + 3 * (N : Int)) = 4 + 3 * (N : Int) := IntWalk.i64_in _ (by omega)
      have el : ((((4 + 3 * N : Nat) : Int)) == 4 + 3 * (N : Int)) = true := by simp
      go_wp2_with fail
      clear y2
      have c0 : wr.cell? ⟨x3.heap.size, 0, none⟩ = some (.int .i64 S) := rkD.2 0 _ rfl
      have d0 : x3.heap.size < wr.heap.size := rkD.1
      have c1 : wr.cell? ⟨x3.heap.size, 1, none⟩ = some (.slice AD M cD) := rkD.2 1 _ rfl
      have d1 : x3.heap.size < wr.heap.size := rkD.1
      have c2 : wr.cell? ⟨x1.heap.size, 0, none⟩ = some (.int .i64 S) := rkB.2 0 _ rfl
      have d2 : x1.heap.size < wr.heap.size := rkB.1
      have c3 : wr.cell? ⟨x1.heap.size, 1, none⟩ = some (.slice (some ⟨gB, 0, none⟩) M cB) := rkB.2 1 _ rfl
      have d3 : x1.heap.size < wr.heap.size := rkB.1
      have c4 : wr.cell? ⟨x7.heap.size, 0, none⟩ = some (.int .i64 W) := rkR.2 0 _ rfl
      have d4 : x7.heap.size < wr.heap.size := rkR.1
      have c5 : wr.cell? ⟨x5.heap.size, 0, none⟩ = some (.int .i64 W) := rkQ.2 0 _ rfl
      have d5 : x5.heap.size < wr.heap.size := rkQ.1
      have c6 : wr.cell? ⟨x5.heap.size, 2, none⟩ = some (.slice (some ⟨gQ, 0, none⟩) N cQ) := rkQ.2 2 _ rfl
      have d6 : x5.heap.size < wr.heap.size := rkQ.1
      have c7 : wr.cell? ⟨x10.heap.size, 0, none⟩ = some (.int .i64 (f 0 0)) := rkC.2 0 _ rfl
      have d7 : x10.heap.size < wr.heap.size := rkC.1
      have c8 : wr.cell? ⟨x10.heap.size, 1, none⟩ = some (.int .i64 (f 0 1)) := rkC.2 1 _ rfl
      have d8 : x10.heap.size < wr.heap.size := rkC.1
      have c9 : wr.cell? ⟨x10.heap.size, 2, none⟩ = some (.int .i64 (f 0 2)) := rkC.2 2 _ rfl
      have d9 : x10.heap.size < wr.heap.size := rkC.1
      have c10 : wr.cell? ⟨gB, 0, none⟩ = some (.int .i64 (f 0 0)) := (by have := sB.cellAt (i := 0) (show 0 < M by omega) (show 0 < 3 by omega); simpa using this)
      have d10 : gB < wr.heap.size := sB.ge.2
      have c11 : wr.cell? ⟨gB, 1, none⟩ = some (.int .i64 (f 0 1)) := (by have := sB.cellAt (i := 0) (show 0 < M by omega) (show 1 < 3 by omega); simpa using this)
      have d11 : gB < wr.heap.size := sB.ge.2
      have c12 : wr.cell? ⟨gB, 2, none⟩ = some (.int .i64 (f 0 2)) := (by have := sB.cellAt (i := 0) (show 0 < M by omega) (show 2 < 3 by omega); simpa using this)
      have d12 : gB < wr.heap.size := sB.ge.2
      clear rkB rkD rkQ rkR rkC
      go_region_held3 (fun w' => w'.cell? ⟨x3.heap.size, 0, none⟩ = some (.int .i64 S) ∧ w'.cell? ⟨x3.heap.size, 1, none⟩ = some (.slice AD M cD) ∧ w'.cell? ⟨x1.heap.size, 0, none⟩ = some (.int .i64 S) ∧ w'.cell? ⟨x1.heap.size, 1, none⟩ = some (.slice (some ⟨gB, 0, none⟩) M cB) ∧ w'.cell? ⟨x7.heap.size, 0, none⟩ = some (.int .i64 W) ∧ w'.cell? ⟨x5.heap.size, 0, none⟩ = some (.int .i64 W) ∧ w'.cell? ⟨x5.heap.size, 2, none⟩ = some (.slice (some ⟨gQ, 0, none⟩) N cQ) ∧ w'.cell? ⟨x10.heap.size, 0, none⟩ = some (.int .i64 (f 0 0)) ∧ w'.cell? ⟨x10.heap.size, 1, none⟩ = some (.int .i64 (f 0 1)) ∧ w'.cell? ⟨x10.heap.size, 2, none⟩ = some (.int .i64 (f 0 2)) ∧ w'.cell? ⟨gB, 0, none⟩ = some (.int .i64 (f 0 0)) ∧ w'.cell? ⟨gB, 1, none⟩ = some (.int .i64 (f 0 1)) ∧ w'.cell? ⟨gB, 2, none⟩ = some (.int .i64 (f 0 2))) (first | go_keep | (exact ⟨s0, s1, s2, s3, s4, s5, s6, s7, s8, s9, s10, s11, s12⟩)) (first | (go_at_call 34; ((with_reducible refine (same_block S AD (some ⟨gB, 0, none⟩) M cD cB f _ _ (sD.drew.rowP HWB.out) (sB.drew.rowP HWB.out) (Nat.le_refl _)).mono ?_); rintro e x30 ⟨rfl, h30⟩); replace h30 := below_drew h30; have u30 := h30.size; have s0 := (h30.cell (p := ⟨x3.heap.size, 0, none⟩) d0).trans c0; have s1 := (h30.cell (p := ⟨x3.heap.size, 1, none⟩) d1).trans c1; have s2 := (h30.cell (p := ⟨x1.heap.size, 0, none⟩) d2).trans c2; have s3 := (h30.cell (p := ⟨x1.heap.size, 1, none⟩) d3).trans c3; have s4 := (h30.cell (p := ⟨x7.heap.size, 0, none⟩) d4).trans c4; have s5 := (h30.cell (p := ⟨x5.heap.size, 0, none⟩) d5).trans c5; have s6 := (h30.cell (p := ⟨x5.heap.size, 2, none⟩) d6).trans c6; have s7 := (h30.cell (p := ⟨x10.heap.size, 0, none⟩) d7).trans c7; have s8 := (h30.cell (p := ⟨x10.heap.size, 1, none⟩) d8).trans c8; have s9 := (h30.cell (p := ⟨x10.heap.size, 2, none⟩) d9).trans c9; have s10 := (h30.cell (p := ⟨gB, 0, none⟩) d10).trans c10; have s11 := (h30.cell (p := ⟨gB, 1, none⟩) d11).trans c11; have s12 := (h30.cell (p := ⟨gB, 2, none⟩) d12).trans c12; have b30 := bwr.trans (h30.mono bwr.size)))
      clear s0 c0 s1 c1 s2 c2 s3 c3 s4 c4 s5 c5 s6 c6 s7 c7 s8 c8 s9 c9 s10 c10 s11 c11 s12 c12
      go_wp2
      go_ret
      exact ⟨ret_bool (decide_eq_true (show 0 < K by omega)), b30⟩

set_option maxRecDepth 100000 in
theorem lifted (os : Os) (started : os.Started) (H : Type) (enc : TypeId × Value → H) :
    ReturnsInHanded {} Tryd.checked os 8 .any (fun w args => (Rows.fnPatternsSpec.pre enc Tryd.prog Tryd.f8 [] false w args ∧ laidMetH Tryd.prog Rows.fnPatternsRow.laid w) ∧ sizedMet enc Tryd.prog Tryd.f8 (OpenSpec.ofChange Rows.fnPatternsSpec) false w args) (Rows.fnPatternsSpec.post enc Tryd.prog Tryd.f8 false true false false) := by
  refine lift_shaped (C := Tryd.checked) (X := fun w _ => laidMetH Tryd.prog Rows.fnPatternsRow.laid w) (fun _ _ _ hh h => h.of_heap hh) own started (by kernel_rfl) Tryd.func8
    (ChangeSpec.witness_shaped (enc := enc) (C := Tryd.checked) (os := os) (X := fun w _ => laidMetH Tryd.prog Rows.fnPatternsRow.laid w) false (World.laidAll Tryd.prog os Rows.fnPatternsRow.laid) #[.slice none 0 0] 8 (World.laidAll_os _ _ _)
      (World.shaped_of_ZipB (by kernel_rfl) (by kernel_rfl)) (by kernel_rfl) (by kernel_rfl) (by kernel_rfl)
      (by rw [MakeChecks.laidMetH_plain _ _ _ (by kernel_rfl)]; exact laidMet_laidAll _ (by kernel_rfl) (by kernel_rfl))) ?_
  intro W base args ds gs before hshape hval0 hW hcnd hsz hL hsh
  obtain ⟨mx, hmx⟩ := some_max W hshape
  have hval : ∀ (j : Nat) t v, Tryd.f8.params[j]? = some t → args[j]? = some v → Value.okWide Tryd.prog W .any base t v := hval0
  have hW' := hW
  obtain ⟨p, q, hA0, hV, rfl, hfz, hnd⟩ := hW
  have hA : DataW.TrodAll enc Tryd.prog W 0 (fun _ => true) true Tryd.f8.params.toList args.toList ds p := hA0
  rw [Tryd.params8] at hA hval
  obtain ⟨v0, vs0, d0, ds0, p0, q0, hargs, rfl, rfl, h0, r0⟩ := trodAll_cons hA
  obtain ⟨rfl, rfl, rfl⟩ := trodAll_nil r0
  obtain rfl : args = #[v0] := by cases args; simp_all
  obtain ⟨rfl, rfl⟩ := trodVars_none hV
  have k0 := h0
  have lt0 : ∀ x ∈ p0, x.block < W.heap.size := by obtain ⟨m, hm⟩ := k0; exact DataW.trod_lt m _ _ _ hm
  obtain ⟨a0, l0, c0, rfl⟩ := okWide_slice Tryd.underlying56 (hval 0 56 v0 rfl rfl)
  obtain ⟨z0, w0⟩ := open_rowI Tryd.underlying56 Tryd.underlying5 (by kernel_rfl) (h0)
  clear hA0 hval0
  refine (walk a0 l0 c0 z0 W mx hmx w0).mono fun e W' ⟨he, bel⟩ => ?_
  subst he
  exact ⟨_, rfl, _, _, _, [], _, [], hW', trodAll_mk1 (shut_bool Tryd.underlying4 _), (trodAll_cons_mk (Below.trod laidOut (by kernel_rfl) (of_decide_eq_true (by kernel_rfl)) k0 bel lt0) trodAll_mk0), rfl, bel.frame _, fun h => by cases h⟩

theorem over : Rows.fnPatternsRow.holds Tryd.pinned (OpenSpec.ofChange Rows.fnPatternsSpec) :=
  OpenClaim.holds_of_wide 8 Tryd.f8 rfl rfl rfl rfl rfl rfl rfl ⟨rfl, rfl, rfl, rfl, rfl⟩ rfl rfl rfl rfl rfl (by kernel_rfl) Tryd.func8 (by kernel_rfl)
    (of_decide_eq_true (by kernel_rfl)) (by unfold Func.isWrapper; first | (rw [if_pos (by decide +kernel)]; kernel_rfl) | (rw [if_neg (by decide +kernel)]; exact ⟨rfl, rfl⟩))
    (fun os started H enc _ => lifted os started H enc)

/-- The statement: the row tied to the program's text. -/
theorem proved : Rows.FnPatternsCardSaid :=
  Claim7.holds_tied_plain_at .later [] _ true _ false over (fun _ h => by cases h) (by kernel_rfl) (fun _ h => by cases h) fnPatterns_row_tie rfl ⟨rfl, rfl⟩ (by kernel_rfl) rfl
    (fun f fn hf hfn => by
      obtain rfl : f = 8 := Option.some.inj ((show Tryd.prog.funcNamed Tryd.f8.name = some 8 by kernel_rfl).symm.trans hf) |>.symm
      obtain rfl : fn = Tryd.f8 := (Option.some.inj (Tryd.func8.symm.trans hfn)).symm
      exact ⟨by kernel_rfl, fun j t ht => by
        rw [Tryd.params8] at ht
        have hm : t ∈ [56] := by simpa using Array.mem_of_getElem? ht
        have hall : ([56].all fun u => !Tryd.prog.wantsStandIn u) = true := by kernel_rfl
        exact (show Tryd.prog.wantsStandIn t = false by simpa using List.all_eq_true.1 hall t hm)⟩)
    (by kernel_rfl)
#print axioms proved
end Go.Proofs.YtheafiaemcmjaaaDoor.fnPatterns
