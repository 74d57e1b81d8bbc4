/-
  The law FnContrast: for every input the Go function returns true, and each argument reads afterwards as it read before.
  Conditions: none beyond the row's own.
-/
import Derived.Test.YthenjmjnooaokaaSeen
import Derived.Test.YthenjmjnooaokaaVals
import Derived.Test.YthenjmjnooaokaaContrI
import Derived.Test.YthenjmjnooaokaaEdge
import Derived.Test.YthenjmjnooaokaaInner
import Derived.Test.YthenjmjnooaokaaBlkE
import Derived.Test.YthenjmjnooaokaaTurnC
import Derived.Test.YthenjmjnooaokaaPureFc
import Derived.Test.YthenjmjnooaokaaCode
import Derived.Test.YthenjmjnooaokaaBlock
import Derived.Test.YthenjmjnooaokaaStock
import Derived.Test.YthenjmjnooaokaaBoxV
import Derived.ChangeOld
import Derived.Carry
namespace Go.Proofs.Ythenjmjnooaokaa.fnContrast
open Go.ChangeShapes Go.WideShapes Go.ChangeAt Go.RowKit Go.Joins
open Go.ChangeMaps (open_string shut_string)
set_option linter.unusedVariables false

theorem own : ownKnob Try.prog.godebug = none := by kernel_rfl
theorem laidOut : laidOutB Try.prog = true := by kernel_rfl

set_option maxRecDepth 100000 in
set_option maxHeartbeats 16000000 in
theorem walk (a0 : Option Addr) (l0 c0 : Nat) (z0 : List Int) (w : World) (w0 : RowI .u8 w w.heap.size a0 l0 c0 z0) :
    Calls Try.prog 8 #[.slice a0 l0 c0] w fun e w' => e = .returned (.bool true) ∧ Below w.heap.size w w' := by
  have hcap := w0.cap
  unfold maxLen at hcap
  rcases (by omega : 1048576 < (l0 : Int) ∨ l0 ≤ 1048576) with hbig | hbig
  · have d0 : decide (1048576 < (l0 : Int)) = true := decide_eq_true hbig
    go_enter Try.func8, Try.ntmps8
    go_wp2_with (go_at_call 29; refine (big_any a0 l0 c0 _ (by omega)).mono ?_; rintro e w' ⟨rfl, rfl⟩; rw [d0])
    go_ret
    exact ⟨rfl, Below.refl _ _⟩
  have d0 : decide (1048576 < (l0 : Int)) = false := decide_eq_false (by omega)
  go_enter Try.func8, Try.ntmps8
  go_wp2_with fail
  refine (big_any a0 l0 c0 _ (by omega)).mono ?_
  rintro e w' ⟨rfl, rfl⟩
  rw [d0]
  go_wp2_with fail
  refine (drawBlock_any a0 l0 c0 z0 w w0 hbig).mono ?_
  rintro e x1 ⟨S, gB, cB, f, rfl, S1, S4, hOK, oB, b1⟩
  obtain ⟨M, hM⟩ : ∃ M, M = S * S := ⟨_, rfl⟩
  have M16 : 1 ≤ M ∧ M ≤ 16 := by rcases (by omega : S = 1 ∨ S = 2 ∨ S = 3 ∨ S = 4) with e | e | e | e <;> subst e <;> omega
  rw [← hM] at oB hOK ⊢
  have HM := Lib.hid hM
  have HOK := Lib.hid hOK
  clear hM hOK
  obtain ⟨y2, hwy2⟩ : ∃ y, y = x1.alloc (.cells #[.int .i64 S, .slice (some ⟨gB, 0, none⟩) M cB] 31) := ⟨_, rfl⟩
  have ny2 : Below x1.heap.size x1 y2 := by rw [hwy2]; exact (Below.refl _ _).alloc (Nat.le_refl _) _
  have kB : BoxV y2 x1.heap.size [.int .i64 S, .slice (some ⟨gB, 0, none⟩) M cB] := by rw [hwy2]; exact boxV_new _ _ _
  go_wp2_with fail
  rw [← hwy2]
  clear hwy2
  have by2 : Below w.heap.size w y2 := b1.trans (ny2.mono (by have := b1.size; omega))
  replace oB := oB.keep ny2
  refine (vals_any a0 l0 c0 z0 y2 ((w0.keep fun p hp => by2.cell hp).more by2.size) hbig).mono ?_
  rintro e x3 ⟨Av, cV, vs, rfl, v6, vb, oV, hx3⟩
  have bx3 : Below w.heap.size w x3 := by2.trans (hx3.mono (by have := by2.size; omega))
  replace kB := kB.below hx3 (by have := kB.1; omega)
  replace oB := oB.keep hx3
  obtain ⟨gV, rfl⟩ := ownI_some oV (by omega)
  have HV6 := Lib.hid v6
  have HVB := Lib.hid vb
  have HW := Lib.hid (show ∀ z ∈ vs, (Lit.int .i64 z).wf = true from fun z hz => WalkArith.wf_i64 (by have := vb z hz; omega))
  clear v6 vb
  have kB_z := kB.1
  have kB_0 := kB.2 0 _ rfl
  have kB_1 := kB.2 1 _ rfl
  go_wp2_with fail
  clear kB_z kB_0 kB_1
  refine (at_any a0 l0 c0 z0 0 w.heap.size x3 (w0.keep fun p hp => bx3.cell hp) hbig (by omega)).mono ?_
  rintro e w' ⟨⟨v, hv, rfl⟩, rfl⟩
  obtain ⟨k, hk⟩ : ∃ k, k = v % 8 := ⟨_, rfl⟩
  have k7 : k ≤ 7 := by omega
  have t1 : (v : Int).tmod 8 = (k : Int) := by rw [Int.tmod_eq_emod_of_nonneg (by omega)]; omega
  clear hk
  have kB_z := kB.1
  have kB_0 := kB.2 0 _ rfl
  have kB_1 := kB.2 1 _ rfl
  go_wp2_with fail
  clear kB_z kB_0 kB_1
  clear t1 hv
  refine (seen_any S M k (some ⟨gB, 0, none⟩) cB f _ x3 HM.out S1 S4 HOK.out (ownS_rowP oB HOK.out) (Nat.le_refl _) k7).mono ?_
  rintro e x4 ⟨gD, cD, d, rfl, okD, sD, oD, hx4⟩
  have bx4 : Below w.heap.size w x4 := bx3.trans (hx4.mono (by have := bx3.size; omega))
  replace kB := kB.below hx4 (by have := kB.1; omega)
  replace oB := oB.keep hx4
  replace oV := oV.keep hx4
  have HD := Lib.hid okD
  have HSD := Lib.hid sD
  clear okD sD
  obtain ⟨y5, hwy5⟩ : ∃ y, y = x4.alloc (.cells #[.int .i64 S, .slice (some ⟨gD, 0, none⟩) M cD] 31) := ⟨_, rfl⟩
  have ny5 : Below x4.heap.size x4 y5 := by rw [hwy5]; exact (Below.refl _ _).alloc (Nat.le_refl _) _
  have kD : BoxV y5 x4.heap.size [.int .i64 S, .slice (some ⟨gD, 0, none⟩) M cD] := by rw [hwy5]; exact boxV_new _ _ _
  have kB_z := kB.1
  have kB_0 := kB.2 0 _ rfl
  have kB_1 := kB.2 1 _ rfl
  go_wp2_with fail
  rw [← hwy5]
  clear hwy5
  clear kB_z kB_0 kB_1
  have by5 : Below w.heap.size w y5 := bx4.trans (ny5.mono (by have := bx4.size; omega))
  replace oD := oD.keep ny5
  replace kB := kB.below ny5 (by have := kB.1; omega)
  replace oB := oB.keep ny5
  replace oV := oV.keep ny5
  refine (impl_blockC S (some ⟨gB, 0, none⟩) M cB f (some ⟨gV, 0, none⟩) 6 cV vs _ y5 (ownS_rowP oB HOK.out) (oV.rowI HW.out) (Nat.le_refl _)).mono ?_
  rintro e x6 ⟨rfl, hx6⟩
  have bx6 : Below w.heap.size w x6 := by5.trans (hx6.mono (by have := by5.size; omega))
  replace kB := kB.below hx6 (by have := kB.1; omega)
  replace kD := kD.below hx6 (by have := kD.1; omega)
  replace oB := oB.keep hx6
  replace oV := oV.keep hx6
  replace oD := oD.keep hx6
  obtain ⟨nC, hnC⟩ : ∃ q, q = blockC S M f vs 6 := ⟨_, rfl⟩
  rw [← hnC]
  have HN := Lib.hid hnC
  clear hnC
  have kB_z := kB.1
  have kB_0 := kB.2 0 _ rfl
  have kB_1 := kB.2 1 _ rfl
  have kD_z := kD.1
  have kD_0 := kD.2 0 _ rfl
  have kD_1 := kD.2 1 _ rfl
  go_wp2_with fail
  clear kB_z kB_0 kB_1
  clear kD_z kD_0 kD_1
  refine (impl_leastC S (some ⟨gB, 0, none⟩) M cB f (some ⟨gV, 0, none⟩) 6 cV vs _ x6 (ownS_rowP oB HOK.out) (oV.rowI HW.out) (Nat.le_refl _)).mono ?_
  rintro e x7 ⟨rfl, hx7⟩
  have bx7 : Below w.heap.size w x7 := bx6.trans (hx7.mono (by have := bx6.size; omega))
  replace kB := kB.below hx7 (by have := kB.1; omega)
  replace kD := kD.below hx7 (by have := kD.1; omega)
  replace oB := oB.keep hx7
  replace oV := oV.keep hx7
  replace oD := oD.keep hx7
  obtain ⟨mC, hmC⟩ : ∃ q, q = blockL S M f vs 6 := ⟨_, rfl⟩
  rw [← hmC]
  have HL := Lib.hid hmC
  clear hmC
  have wi := (own_empty x7).base (show w.heap.size ≤ x7.heap.size from bx7.size)
  have nw : Below x7.heap.size x7 (x7.alloc (.cells #[] 3)) := (Below.refl _ _).alloc (Nat.le_refl _) _
  have kB_z := kB.1
  have kB_0 := kB.2 0 _ rfl
  have kB_1 := kB.2 1 _ rfl
  have kD_z := kD.1
  have kD_0 := kD.2 0 _ rfl
  have kD_1 := kD.2 1 _ rfl
  go_wp2_with fail
  clear kB_z kB_0 kB_1
  clear kD_z kD_0 kD_1
  have z0' : x7.heap.size ≤ (x7.alloc (.cells #[] 3)).heap.size := nw.size
  go_loopw [9, 10] (fun lv kv wr => ∃ (i : Nat) (A3 : Option Addr) (c3 : Nat), i ≤ 6 ∧ kv = .int .i64 i ∧ lv = .slice A3 i c3 ∧ OwnI wr x7.heap.size (.slice A3 i c3) ((invV vs).take i) ∧ Below x7.heap.size x7 wr) (fun _ kv _ => 6 - (intOf kv).toNat)
  case atStart => exact ⟨0, _, _, by omega, rfl, rfl, own_empty x7, nw⟩
  case round =>
    clear wi nw z0'
    obtain ⟨i, A3, c3, hi, rfl, rfl, oW, hb⟩ := hrel
    by_cases hlt : i < 6
    · have hzz := hb.size
      have oV2 := oV.keep hb
      have v1 := oV2.cellAt (show i < vs.length by rw [HV6.out]; exact hlt)
      obtain ⟨y, hy⟩ : ∃ y : Int, y = 100 - nth vs i := ⟨_, rfl⟩
      have hyb : 0 ≤ y ∧ y ≤ 100 := by have := HVB.out _ (nth_mem (show i < vs.length by rw [HV6.out]; exact hlt)); omega
      have t2 : IntKind.i64.wrap (100 - nth vs i) = y := by rw [IntWalk.i64_in _ (by omega)]; omega
      have t1 : (100 : Int) - nth vs i = y := hy.symm
      have i0 : (0 : Int) ≤ (i : Int) := by omega
      have i3 : (i : Int) < 6 := by omega
      have HXL := Lib.hid (show ((invV vs).take i).length = i by rw [List.length_take, invV_len, HV6.out]; omega)
      have HXS := Lib.hid (show (invV vs).take i ++ [y] = (invV vs).take (i + 1) by
        rw [List.take_add_one, nth_get? (show i < (invV vs).length by rw [invV_len, HV6.out]; exact hlt), invV_nth (by rw [HV6.out]; exact hlt), hy]; rfl)
      clear hy oV2
      go_wp2_with (at_builtin; refine app_shape rfl _ _ rfl x7.heap.size _ ((invV vs).take i) y wr.heap.size i HXL.out rfl (oW.alloc _) rfl (heap_alloc_new wr _) (by rw [HXL.out]; omega) (by simp; omega) ?_; intro A6 c6 w6 ho6 hb6)
      clear t1 t2 v1
      rw [HXS.out] at ho6
      have hb8 := (hb.alloc hzz (.cells #[.int .i64 y] 3)).trans hb6
      clear hb6 hb oW
      go_wp2
      go_roundw
      case rel => exact ⟨i + 1, A6, c6, by omega, by go_num, rfl, ho6, hb8⟩
      case measure => simp [intOf]; omega
    obtain rfl : i = 6 := by omega
    obtain ⟨gW, rfl⟩ := ownI_some oW (by omega)
    rw [show (invV vs).take 6 = invV vs from List.take_of_length_le (by rw [invV_len, HV6.out]; omega)] at oW

    have bwr : Below w.heap.size w wr := bx7.trans (hb.mono (by have := bx7.size; omega))
    replace kB := kB.below hb (by have := kB.1; omega)
    replace kD := kD.below hb (by have := kD.1; omega)
    replace oB := oB.keep hb
    replace oV := oV.keep hb
    replace oD := oD.keep hb
    have okf0 := HOK.out 0 (by omega)
    obtain ⟨L, hL⟩ : ∃ L, L = M - 1 := ⟨_, rfl⟩
    have okfL := HOK.out L (by omega)
    have hLM : L < M := by omega
    have L1 : (M : Int) - 1 = (L : Int) := by omega
    have L2 : IntKind.i64.wrap ((M : Int) - 1) = (L : Int) := by rw [IntWalk.i64_in _ (by omega)]; omega
    have L3 : (L : Int) < (M : Int) := by omega
    have L4 : (0 : Int) ≤ (L : Int) := by omega
    have L5 : (0 : Int) < (M : Int) := by omega
    clear hL
    have c0 := oB.cellAt (show 0 < M by omega) (show 0 < 3 by omega)
    have c1 := oB.cellAt (show 0 < M by omega) (show 1 < 3 by omega)
    have c2 := oB.cellAt (show 0 < M by omega) (show 2 < 3 by omega)
    have e0 := oB.cellAt hLM (show 0 < 3 by omega)
    have e1 := oB.cellAt hLM (show 1 < 3 by omega)
    have e2 := oB.cellAt hLM (show 2 < 3 by omega)
    simp only [Nat.zero_mul, Nat.add_zero, Nat.zero_add] at c0 c1 c2 e0 e1 e2
    have zg : gB < wr.heap.size := oB.ge.2
    have zgn : gB ≠ wr.heap.size := by omega
    obtain ⟨y8, hw8⟩ : ∃ y, y = wr.alloc (.cells #[.int .i64 (f 0 0), .int .i64 (f 0 1), .int .i64 (f 0 2)] 56) := ⟨_, rfl⟩
    obtain ⟨y9, hw9⟩ : ∃ y, y = y8.alloc (.cells #[.int .i64 (f L 0), .int .i64 (f L 1), .int .i64 (f L 2)] 56) := ⟨_, rfl⟩
    have ny8 : Below wr.heap.size wr y8 := by rw [hw8]; exact (Below.refl _ _).alloc (Nat.le_refl _) _
    have kC : BoxV y8 wr.heap.size [.int .i64 (f 0 0), .int .i64 (f 0 1), .int .i64 (f 0 2)] := by rw [hw8]; exact boxV_new _ _ _
    have ny9 : Below y8.heap.size y8 y9 := by rw [hw9]; exact (Below.refl _ _).alloc (Nat.le_refl _) _
    have kE : BoxV y9 (wr.heap.size + 1) [.int .i64 (f L 0), .int .i64 (f L 1), .int .i64 (f L 2)] := by rw [show wr.heap.size + 1 = y8.heap.size by rw [hw8]; simp, hw9]; exact boxV_new _ _ _
    have kB_z := kB.1
    have kB_0 := kB.2 0 _ rfl
    have kB_1 := kB.2 1 _ rfl
    have kD_z := kD.1
    have kD_0 := kD.2 0 _ rfl
    have kD_1 := kD.2 1 _ rfl
    go_wp2_with fail
    rw [← hw8, ← hw9]
    clear hw9 hw8
    clear kB_z kB_0 kB_1
    clear kD_z kD_0 kD_1
    have by8 : Below w.heap.size w y8 := bwr.trans (ny8.mono (by have := bwr.size; omega))
    replace kB := kB.below ny8 (by have := kB.1; omega)
    replace kD := kD.below ny8 (by have := kD.1; omega)
    replace oB := oB.keep ny8
    replace oV := oV.keep ny8
    replace oD := oD.keep ny8
    replace oW := oW.keep ny8
    have by9 : Below w.heap.size w y9 := by8.trans (ny9.mono (by have := by8.size; omega))
    replace kB := kB.below ny9 (by have := kB.1; omega)
    replace kD := kD.below ny9 (by have := kD.1; omega)
    replace kC := kC.below ny9 (by have := kC.1; omega)
    replace oB := oB.keep ny9
    replace oV := oV.keep ny9
    replace oD := oD.keep ny9
    replace oW := oW.keep ny9
    clear c0 c1 c2 e0 e1 e2 zg zgn L1 L2 L3 L4 L5
    refine (impl_edge (f 0) (f L) true (some ⟨gV, 0, none⟩) 6 cV vs _ y9 (oV.rowI HW.out) (Nat.le_refl _)).mono ?_
    rintro e x8 ⟨rfl, hx8⟩
    have bx8 : Below w.heap.size w x8 := by9.trans (hx8.mono (by have := by9.size; omega))
    replace kB := kB.below hx8 (by have := kB.1; omega)
    replace kD := kD.below hx8 (by have := kD.1; omega)
    replace kC := kC.below hx8 (by have := kC.1; omega)
    replace kE := kE.below hx8 (by have := kE.1; omega)
    replace oB := oB.keep hx8
    replace oV := oV.keep hx8
    replace oD := oD.keep hx8
    replace oW := oW.keep hx8
    have hub := edge_bd okf0 okfL HV6.out HVB.out
    have hin := inner_max okf0 HV6.out HVB.out
    have het := edge_turn (f 0) (f L) vs 6
    obtain ⟨uC, huC⟩ : ∃ q, q = edgeC (f 0) (f L) true vs 6 := ⟨_, rfl⟩
    rw [← huC] at hub het ⊢
    have HE := Lib.hid het
    have HIN := Lib.hid hin
    clear huC het hin
    have kB_z := kB.1
    have kB_0 := kB.2 0 _ rfl
    have kB_1 := kB.2 1 _ rfl
    have kD_z := kD.1
    have kD_0 := kD.2 0 _ rfl
    have kD_1 := kD.2 1 _ rfl
    have kC_z := kC.1
    have kC_0 := kC.2 0 _ rfl
    have kC_1 := kC.2 1 _ rfl
    have kC_2 := kC.2 2 _ rfl
    have kE_z := kE.1
    have kE_0 := kE.2 0 _ rfl
    have kE_1 := kE.2 1 _ rfl
    have kE_2 := kE.2 2 _ rfl
    go_upto_region 17 with fail
    clear kB_z kB_0 kB_1
    clear kD_z kD_0 kD_1
    clear kC_z kC_0 kC_1 kC_2
    clear kE_z kE_0 kE_1 kE_2
    have HSC := Lib.hid (saysC (p := fun _ => cellL 0 2 2) S1 S4 (fun k hk => HOK.out k (by rw [HM.out]; exact hk)) (fun k hk => HD.out k (by rw [HM.out]; exact hk)) HSD.out (fun _ => ⟨rfl, rfl, rfl⟩) HV6.out HVB.out)
    have sn0 : 0 ≤ nC := by rw [HN.out, HM.out]; exact HSC.out.n0
    have sm0 : 0 ≤ mC := by rw [HL.out, HM.out]; exact HSC.out.m0
    have sm1 : mC ≤ 100 := by rw [HL.out, HM.out]; exact HSC.out.m1
    have smn : mC ≤ nC := by rw [HL.out, HN.out, HM.out]; exact HSC.out.mn
    have su0 := hub.1
    have su1 := hub.2
    have q1 := decide_eq_true sn0
    have q2 := decide_eq_true sm0
    have q3 := decide_eq_true sm1
    have q4 := decide_eq_true smn
    have q5 := decide_eq_true su0
    have q6 := decide_eq_true su1
    have EN := Lib.hid (show blockC (S : Int) M d vs 6 = nC by rw [HN.out, HM.out]; exact HSC.out.nd)
    have EM := Lib.hid (show blockL (S : Int) M d vs 6 = mC by rw [HL.out, HM.out]; exact HSC.out.md)
    have EW := Lib.hid (show blockC (S : Int) M f (invV vs) 6 = nC by rw [HN.out, HM.out]; exact HSC.out.nw)
    have EP := Lib.hid (show blockC (S : Int) M (fun _ => cellL 0 2 2) vs 6 = 0 by rw [HM.out]; exact HSC.out.pl)
    have EK := Lib.hid (okList_of HV6.out HVB.out)
    have HWI := Lib.hid (show ∀ z ∈ invV vs, (Lit.int .i64 z).wf = true by
      intro z hz
      unfold invV at hz
      obtain ⟨y, hy, rfl⟩ := List.mem_map.1 hz
      exact WalkArith.wf_i64 (by have := HVB.out y hy; omega))
    have HF0 := Lib.hid okf0
    have HFL := Lib.hid okfL
    obtain ⟨_, ⟨a1, a2⟩, ⟨a3, a4⟩, _⟩ := cellOk_t okf0
    have a2' : f 0 1 < 6 := by omega
    have a4' : f 0 2 < 6 := by omega
    have X1 := HVB.out _ (nth_mem (show (f 0 1).toNat < vs.length by rw [HV6.out]; omega))
    have Y1 := HVB.out _ (nth_mem (show (f 0 2).toNat < vs.length by rw [HV6.out]; omega))
    obtain ⟨X, hX⟩ : ∃ q, q = nth vs (f 0 1).toNat := ⟨_, rfl⟩
    obtain ⟨Y, hY⟩ : ∃ q, q = nth vs (f 0 2).toNat := ⟨_, rfl⟩
    rw [← hX] at X1
    rw [← hY] at Y1
    obtain ⟨DX, hDX⟩ : ∃ q, q = X - Y := ⟨_, rfl⟩
    obtain ⟨DY, hDY⟩ : ∃ q, q = Y - X := ⟨_, rfl⟩
    obtain ⟨MX, hMX⟩ : ∃ q, q = if DX < DY then DY else DX := ⟨_, rfl⟩
    have EI := Lib.hid (show innerC (f 0) vs 6 = MX by rw [HIN.out, ← hX, ← hY, hMX]; split <;> omega)
    have w1 : IntKind.i64.wrap (X - Y) = DX := by rw [IntWalk.i64_in _ (by omega)]; omega
    have w2 : IntKind.i64.wrap (Y - X) = DY := by rw [IntWalk.i64_in _ (by omega)]; omega
    have w3 : (if DX < DY then DY else DX) = MX := hMX.symm
    have HX := Lib.hid hX
    have HY := Lib.hid hY
    clear hX hY hDX hDY hMX hub okf0 okfL a2 a4
    have kB_z := kB.1
    have kB_0 := kB.2 0 _ rfl
    have kB_1 := kB.2 1 _ rfl
    have kD_z := kD.1
    have kD_0 := kD.2 0 _ rfl
    have kD_1 := kD.2 1 _ rfl
    have kC_z := kC.1
    have kC_0 := kC.2 0 _ rfl
    have kC_1 := kC.2 1 _ rfl
    have kC_2 := kC.2 2 _ rfl
    have kE_z := kE.1
    have kE_0 := kE.2 0 _ rfl
    have kE_1 := kE.2 1 _ rfl
    have kE_2 := kE.2 2 _ rfl
    go_wp2_with fail
    clear kB_z kB_0 kB_1
    clear kD_z kD_0 kD_1
    clear kC_z kC_0 kC_1 kC_2
    clear kE_z kE_0 kE_1 kE_2
    refine (plain_any S 2 x8 S1 S4 (by omega) (by omega)).mono ?_
    rintro e x9 ⟨gP, cP, rfl, oP, hx9⟩
    have bx9 : Below w.heap.size w x9 := bx8.trans (hx9.mono (by have := bx8.size; omega))
    replace kB := kB.below hx9 (by have := kB.1; omega)
    replace kD := kD.below hx9 (by have := kD.1; omega)
    replace kC := kC.below hx9 (by have := kC.1; omega)
    replace kE := kE.below hx9 (by have := kE.1; omega)
    replace oB := oB.keep hx9
    replace oV := oV.keep hx9
    replace oD := oD.keep hx9
    replace oW := oW.keep hx9
    rw [← HM.out] at oP ⊢
    obtain ⟨y10, hwy10⟩ : ∃ y, y = x9.alloc (.cells #[.int .i64 S, .slice (some ⟨gP, 0, none⟩) M cP] 31) := ⟨_, rfl⟩
    have ny10 : Below x9.heap.size x9 y10 := by rw [hwy10]; exact (Below.refl _ _).alloc (Nat.le_refl _) _
    have kP : BoxV y10 x9.heap.size [.int .i64 S, .slice (some ⟨gP, 0, none⟩) M cP] := by rw [hwy10]; exact boxV_new _ _ _
    have kB_z := kB.1
    have kB_0 := kB.2 0 _ rfl
    have kB_1 := kB.2 1 _ rfl
    have kD_z := kD.1
    have kD_0 := kD.2 0 _ rfl
    have kD_1 := kD.2 1 _ rfl
    have kC_z := kC.1
    have kC_0 := kC.2 0 _ rfl
    have kC_1 := kC.2 1 _ rfl
    have kC_2 := kC.2 2 _ rfl
    have kE_z := kE.1
    have kE_0 := kE.2 0 _ rfl
    have kE_1 := kE.2 1 _ rfl
    have kE_2 := kE.2 2 _ rfl
    go_wp2_with fail
    rw [← hwy10]
    clear hwy10
    clear kB_z kB_0 kB_1
    clear kD_z kD_0 kD_1
    clear kC_z kC_0 kC_1 kC_2
    clear kE_z kE_0 kE_1 kE_2
    have by10 : Below w.heap.size w y10 := bx9.trans (ny10.mono (by have := bx9.size; omega))
    replace oP := oP.keep ny10
    replace kB := kB.below ny10 (by have := kB.1; omega)
    replace kD := kD.below ny10 (by have := kD.1; omega)
    replace kC := kC.below ny10 (by have := kC.1; omega)
    replace kE := kE.below ny10 (by have := kE.1; omega)
    replace oB := oB.keep ny10
    replace oV := oV.keep ny10
    replace oD := oD.keep ny10
    replace oW := oW.keep ny10
    have bz : Below w.heap.size w y10.drew := by10.drew
    replace kB : BoxV y10.drew (x1.heap.size) [.int .i64 S, .slice (some ⟨gB, 0, none⟩) M cB] := kB
    replace kD : BoxV y10.drew (x4.heap.size) [.int .i64 S, .slice (some ⟨gD, 0, none⟩) M cD] := kD
    replace kC : BoxV y10.drew (wr.heap.size) [.int .i64 (f 0 0), .int .i64 (f 0 1), .int .i64 (f 0 2)] := kC
    replace kE : BoxV y10.drew (wr.heap.size + 1) [.int .i64 (f L 0), .int .i64 (f L 1), .int .i64 (f L 2)] := kE
    replace kP : BoxV y10.drew (x9.heap.size) [.int .i64 S, .slice (some ⟨gP, 0, none⟩) M cP] := kP
    replace oB := oB.drew
    replace oV := oV.drew
    replace oD := oD.drew
    replace oW := oW.drew
    replace oP := oP.drew
    clear hcap d0 M16 k7 hi hlt HSD HSC HN HL HVB HIN sn0 sm0 sm1 smn su0 su1 X1 Y1 hLM b1 ny2 by2 bx3 bx4 ny5 by5 bx6 bx7 bwr ny8 ny9 by8 by9 bx8 bx9 ny10 by10 hx3 hx4 hx6 hx7 hx8 hx9
    dsimp only [List.append]
    rcases Bool.eq_false_or_eq_true (nC == 0) with q0 | q0
    · skip
      refine wp_region_held_drew (S := (fun w' => w'.cell? ⟨x1.heap.size, 0, none⟩ = some (.int .i64 S) ∧ w'.cell? ⟨x1.heap.size, 1, none⟩ = some (.slice (some ⟨gB, 0, none⟩) M cB) ∧ w'.cell? ⟨x4.heap.size, 0, none⟩ = some (.int .i64 S) ∧ w'.cell? ⟨x4.heap.size, 1, none⟩ = some (.slice (some ⟨gD, 0, none⟩) M cD) ∧ w'.cell? ⟨wr.heap.size, 0, none⟩ = some (.int .i64 (f 0 0)) ∧ w'.cell? ⟨wr.heap.size, 1, none⟩ = some (.int .i64 (f 0 1)) ∧ w'.cell? ⟨wr.heap.size, 2, none⟩ = some (.int .i64 (f 0 2)) ∧ w'.cell? ⟨(wr.heap.size + 1), 0, none⟩ = some (.int .i64 (f L 0)) ∧ w'.cell? ⟨(wr.heap.size + 1), 1, none⟩ = some (.int .i64 (f L 1)) ∧ w'.cell? ⟨(wr.heap.size + 1), 2, none⟩ = some (.int .i64 (f L 2)) ∧ w'.cell? ⟨x9.heap.size, 0, none⟩ = some (.int .i64 S) ∧ w'.cell? ⟨x9.heap.size, 1, none⟩ = some (.slice (some ⟨gP, 0, none⟩) M cP) ∧ w'.cell? ⟨gV, (f 0 1).toNat, none⟩ = some (.int .i64 X) ∧ w'.cell? ⟨gV, (f 0 2).toNat, none⟩ = some (.int .i64 Y))) (by as_aux_lemma => kernel_rfl) ?_ (fun hHeld => ?_)
      · first | trivial | ((try dsimp only); (exact ⟨kB.2 0 _ rfl, kB.2 1 _ rfl, kD.2 0 _ rfl, kD.2 1 _ rfl, kC.2 0 _ rfl, kC.2 1 _ rfl, kC.2 2 _ rfl, kE.2 0 _ rfl, kE.2 1 _ rfl, kE.2 2 _ rfl, kP.2 0 _ rfl, kP.2 1 _ rfl, (by rw [HX.out]; exact oV.cellAt (show (f 0 1).toNat < vs.length by rw [HV6.out]; omega)), (by rw [HY.out]; exact oV.cellAt (show (f 0 2).toNat < vs.length by rw [HV6.out]; omega))⟩))
      refine wpAnyH_take (i := 0) (v := ?_) rfl (by as_aux_lemma => kernel_rfl) (by as_aux_lemma => kernel_rfl) (by as_aux_lemma => kernel_rfl) (fun _ _ _ h => h) (Or.inl ⟨by rfl, ?_⟩) (by assumption) ?_
      rotate_left 1
      · intro w hSw
        try dsimp only at hSw
        go_simp
        try with_reducible rfl
      try simp only [Act.put, List.getElem_toArray, List.getElem_cons_zero, List.getElem_cons_succ, List.setIfInBounds_toArray, List.set_cons_zero, List.set_cons_succ]
      refine wpAnyH_take (i := 1) (v := ?_) rfl (by as_aux_lemma => kernel_rfl) (by as_aux_lemma => kernel_rfl) (by as_aux_lemma => kernel_rfl) (fun _ _ _ h => h) (Or.inl ⟨by rfl, ?_⟩) (by assumption) ?_
      rotate_left 1
      · intro w hSw
        try dsimp only at hSw
        go_simp
        try with_reducible rfl
      try simp only [Act.put, List.getElem_toArray, List.getElem_cons_zero, List.getElem_cons_succ, List.setIfInBounds_toArray, List.set_cons_zero, List.set_cons_succ]
      refine wpAnyH_take (i := 2) (v := ?_) rfl (by as_aux_lemma => kernel_rfl) (by as_aux_lemma => kernel_rfl) (by as_aux_lemma => kernel_rfl) (fun _ _ _ h => h) (Or.inl ⟨by rfl, ?_⟩) (by assumption) ?_
      rotate_left 1
      · intro w hSw
        try dsimp only at hSw
        go_simp
        try with_reducible rfl
      try simp only [Act.put, List.getElem_toArray, List.getElem_cons_zero, List.getElem_cons_succ, List.setIfInBounds_toArray, List.set_cons_zero, List.set_cons_succ]
      refine wpAnyH_take (i := 3) (v := ?_) rfl (by as_aux_lemma => kernel_rfl) (by as_aux_lemma => kernel_rfl) (by as_aux_lemma => kernel_rfl) (fun _ _ _ h => h) (Or.inl ⟨by rfl, ?_⟩) (by assumption) ?_
      rotate_left 1
      · intro w hSw
        try dsimp only at hSw
        go_simp
        try with_reducible rfl
      try simp only [Act.put, List.getElem_toArray, List.getElem_cons_zero, List.getElem_cons_succ, List.setIfInBounds_toArray, List.set_cons_zero, List.set_cons_succ]
      refine wpAnyH_take (i := 4) (v := ?_) rfl (by as_aux_lemma => kernel_rfl) (by as_aux_lemma => kernel_rfl) (by as_aux_lemma => kernel_rfl) (fun _ _ _ h => h) (Or.inl ⟨by rfl, ?_⟩) (by assumption) ?_
      rotate_left 1
      · intro w hSw
        try dsimp only at hSw
        go_simp
        try with_reducible rfl
      try simp only [Act.put, List.getElem_toArray, List.getElem_cons_zero, List.getElem_cons_succ, List.setIfInBounds_toArray, List.set_cons_zero, List.set_cons_succ]
      refine wpAnyH_take (i := 5) (v := ?_) rfl (by as_aux_lemma => kernel_rfl) (by as_aux_lemma => kernel_rfl) (by as_aux_lemma => kernel_rfl) (fun _ _ _ h => h) (Or.inl ⟨by rfl, ?_⟩) (by assumption) ?_
      rotate_left 1
      · intro w hSw
        try dsimp only at hSw
        go_simp
        try with_reducible rfl
      try simp only [Act.put, List.getElem_toArray, List.getElem_cons_zero, List.getElem_cons_succ, List.setIfInBounds_toArray, List.set_cons_zero, List.set_cons_succ]
      refine wpAnyH_take (i := 6) (v := ?_) rfl (by as_aux_lemma => kernel_rfl) (by as_aux_lemma => kernel_rfl) (by as_aux_lemma => kernel_rfl) (fun _ _ _ h => h) (Or.inl ⟨by rfl, ?_⟩) (by assumption) ?_
      rotate_left 1
      · intro w hSw
        try dsimp only at hSw
        go_simp
        try with_reducible rfl
      try simp only [Act.put, List.getElem_toArray, List.getElem_cons_zero, List.getElem_cons_succ, List.setIfInBounds_toArray, List.set_cons_zero, List.set_cons_succ]
      refine wpAnyH_take (i := 7) (v := ?_) rfl (by as_aux_lemma => kernel_rfl) (by as_aux_lemma => kernel_rfl) (by as_aux_lemma => kernel_rfl) (fun _ _ _ h => h) (Or.inl ⟨by rfl, ?_⟩) (by assumption) ?_
      rotate_left 1
      · intro w hSw
        try dsimp only at hSw
        go_simp
        try with_reducible rfl
      try simp only [Act.put, List.getElem_toArray, List.getElem_cons_zero, List.getElem_cons_succ, List.setIfInBounds_toArray, List.set_cons_zero, List.set_cons_succ]
      refine wpAnyH_take (i := 8) (v := ?_) rfl (by as_aux_lemma => kernel_rfl) (by as_aux_lemma => kernel_rfl) (by as_aux_lemma => kernel_rfl) (fun _ _ _ h => h) (Or.inl ⟨by rfl, ?_⟩) (by assumption) ?_
      rotate_left 1
      · intro w hSw
        try dsimp only at hSw
        go_simp
        try with_reducible rfl
      try simp only [Act.put, List.getElem_toArray, List.getElem_cons_zero, List.getElem_cons_succ, List.setIfInBounds_toArray, List.set_cons_zero, List.set_cons_succ]
      refine wpAnyH_take (i := 10) (v := ?_) rfl (by as_aux_lemma => kernel_rfl) (by as_aux_lemma => kernel_rfl) (by as_aux_lemma => kernel_rfl) (fun _ _ _ h => h) (Or.inl ⟨by rfl, ?_⟩) (by assumption) ?_
      rotate_left 1
      · intro w hSw
        try dsimp only at hSw
        go_simp
        try with_reducible rfl
      try simp only [Act.put, List.getElem_toArray, List.getElem_cons_zero, List.getElem_cons_succ, List.setIfInBounds_toArray, List.set_cons_zero, List.set_cons_succ]
      refine wpAnyH_ready (rs := [9]) (by as_aux_lemma => kernel_rfl) (by simp) ?_
      refine AllReadyH.cons rfl (fun K hK => ?_) AllReadyH.nil
      go_simp
      refine (impl_blockC S (some ⟨gD, 0, none⟩) M cD d (some ⟨gV, 0, none⟩) 6 cV vs _ _ (ownS_rowP oD HD.out) (oV.rowI HW.out) (Nat.le_refl _)).mono ?_
      rintro e x20 ⟨rfl, hx20⟩
      rw [EN.out]
      replace bz := bz.trans (hx20.mono (by have := bz.size; omega))
      replace kB := kB.below hx20 (by have := kB.1; omega)
      replace kD := kD.below hx20 (by have := kD.1; omega)
      replace kC := kC.below hx20 (by have := kC.1; omega)
      replace kE := kE.below hx20 (by have := kE.1; omega)
      replace kP := kP.below hx20 (by have := kP.1; omega)
      replace oB := oB.keep hx20
      replace oV := oV.keep hx20
      replace oD := oD.keep hx20
      replace oW := oW.keep hx20
      replace oP := oP.keep hx20
      clear hx20
      go_wp2_with fail
      refine hK.out _ _ ?_ (fun hHeld => ?_)
      · first | trivial | ((try dsimp only); (exact ⟨kB.2 0 _ rfl, kB.2 1 _ rfl, kD.2 0 _ rfl, kD.2 1 _ rfl, kC.2 0 _ rfl, kC.2 1 _ rfl, kC.2 2 _ rfl, kE.2 0 _ rfl, kE.2 1 _ rfl, kE.2 2 _ rfl, kP.2 0 _ rfl, kP.2 1 _ rfl, (by rw [HX.out]; exact oV.cellAt (show (f 0 1).toNat < vs.length by rw [HV6.out]; omega)), (by rw [HY.out]; exact oV.cellAt (show (f 0 2).toNat < vs.length by rw [HV6.out]; omega))⟩))
      clear hK K
      try simp only [Act.put, List.getElem_toArray, List.getElem_cons_zero, List.getElem_cons_succ, List.setIfInBounds_toArray, List.set_cons_zero, List.set_cons_succ]
      refine wpAnyH_take (i := 11) (v := ?_) rfl (by as_aux_lemma => kernel_rfl) (by as_aux_lemma => kernel_rfl) (by as_aux_lemma => kernel_rfl) (fun _ _ _ h => h) (Or.inl ⟨by rfl, ?_⟩) (by assumption) ?_
      rotate_left 1
      · intro w hSw
        try dsimp only at hSw
        go_simp
        try with_reducible rfl
      try simp only [Act.put, List.getElem_toArray, List.getElem_cons_zero, List.getElem_cons_succ, List.setIfInBounds_toArray, List.set_cons_zero, List.set_cons_succ]
      refine wpAnyH_take (i := 12) (v := ?_) rfl (by as_aux_lemma => kernel_rfl) (by as_aux_lemma => kernel_rfl) (by as_aux_lemma => kernel_rfl) (fun _ _ _ h => h) (Or.inl ⟨by rfl, ?_⟩) (by assumption) ?_
      rotate_left 1
      · intro w hSw
        try dsimp only at hSw
        go_simp
        try with_reducible rfl
      try simp only [Act.put, List.getElem_toArray, List.getElem_cons_zero, List.getElem_cons_succ, List.setIfInBounds_toArray, List.set_cons_zero, List.set_cons_succ]
      refine wpAnyH_take (i := 13) (v := ?_) rfl (by as_aux_lemma => kernel_rfl) (by as_aux_lemma => kernel_rfl) (by as_aux_lemma => kernel_rfl) (fun _ _ _ h => h) (Or.inl ⟨by rfl, ?_⟩) (by assumption) ?_
      rotate_left 1
      · intro w hSw
        try dsimp only at hSw
        go_simp
        try with_reducible rfl
      try simp only [Act.put, List.getElem_toArray, List.getElem_cons_zero, List.getElem_cons_succ, List.setIfInBounds_toArray, List.set_cons_zero, List.set_cons_succ]
      refine wpAnyH_take (i := 14) (v := ?_) rfl (by as_aux_lemma => kernel_rfl) (by as_aux_lemma => kernel_rfl) (by as_aux_lemma => kernel_rfl) (fun _ _ _ h => h) (Or.inl ⟨by rfl, ?_⟩) (by assumption) ?_
      rotate_left 1
      · intro w hSw
        try dsimp only at hSw
        go_simp
        try with_reducible rfl
      try simp only [Act.put, List.getElem_toArray, List.getElem_cons_zero, List.getElem_cons_succ, List.setIfInBounds_toArray, List.set_cons_zero, List.set_cons_succ]
      refine wpAnyH_take (i := 15) (v := ?_) rfl (by as_aux_lemma => kernel_rfl) (by as_aux_lemma => kernel_rfl) (by as_aux_lemma => kernel_rfl) (fun _ _ _ h => h) (Or.inl ⟨by rfl, ?_⟩) (by assumption) ?_
      rotate_left 1
      · intro w hSw
        try dsimp only at hSw
        go_simp
        try with_reducible rfl
      try simp only [Act.put, List.getElem_toArray, List.getElem_cons_zero, List.getElem_cons_succ, List.setIfInBounds_toArray, List.set_cons_zero, List.set_cons_succ]
      refine wpAnyH_take (i := 17) (v := ?_) rfl (by as_aux_lemma => kernel_rfl) (by as_aux_lemma => kernel_rfl) (by as_aux_lemma => kernel_rfl) (fun _ _ _ h => h) (Or.inl ⟨by rfl, ?_⟩) (by assumption) ?_
      rotate_left 1
      · intro w hSw
        try dsimp only at hSw
        go_simp
        try with_reducible rfl
      try simp only [Act.put, List.getElem_toArray, List.getElem_cons_zero, List.getElem_cons_succ, List.setIfInBounds_toArray, List.set_cons_zero, List.set_cons_succ]
      refine wpAnyH_ready (rs := [16]) (by as_aux_lemma => kernel_rfl) (by simp) ?_
      refine AllReadyH.cons rfl (fun K hK => ?_) AllReadyH.nil
      go_simp
      refine (impl_leastC S (some ⟨gD, 0, none⟩) M cD d (some ⟨gV, 0, none⟩) 6 cV vs _ _ (ownS_rowP oD HD.out) (oV.rowI HW.out) (Nat.le_refl _)).mono ?_
      rintro e x21 ⟨rfl, hx21⟩
      rw [EM.out]
      replace bz := bz.trans (hx21.mono (by have := bz.size; omega))
      replace kB := kB.below hx21 (by have := kB.1; omega)
      replace kD := kD.below hx21 (by have := kD.1; omega)
      replace kC := kC.below hx21 (by have := kC.1; omega)
      replace kE := kE.below hx21 (by have := kE.1; omega)
      replace kP := kP.below hx21 (by have := kP.1; omega)
      replace oB := oB.keep hx21
      replace oV := oV.keep hx21
      replace oD := oD.keep hx21
      replace oW := oW.keep hx21
      replace oP := oP.keep hx21
      clear hx21
      go_wp2_with fail
      refine hK.out _ _ ?_ (fun hHeld => ?_)
      · first | trivial | ((try dsimp only); (exact ⟨kB.2 0 _ rfl, kB.2 1 _ rfl, kD.2 0 _ rfl, kD.2 1 _ rfl, kC.2 0 _ rfl, kC.2 1 _ rfl, kC.2 2 _ rfl, kE.2 0 _ rfl, kE.2 1 _ rfl, kE.2 2 _ rfl, kP.2 0 _ rfl, kP.2 1 _ rfl, (by rw [HX.out]; exact oV.cellAt (show (f 0 1).toNat < vs.length by rw [HV6.out]; omega)), (by rw [HY.out]; exact oV.cellAt (show (f 0 2).toNat < vs.length by rw [HV6.out]; omega))⟩))
      clear hK K
      try simp only [Act.put, List.getElem_toArray, List.getElem_cons_zero, List.getElem_cons_succ, List.setIfInBounds_toArray, List.set_cons_zero, List.set_cons_succ]
      refine wpAnyH_take (i := 18) (v := ?_) rfl (by as_aux_lemma => kernel_rfl) (by as_aux_lemma => kernel_rfl) (by as_aux_lemma => kernel_rfl) (fun _ _ _ h => h) (Or.inl ⟨by rfl, ?_⟩) (by assumption) ?_
      rotate_left 1
      · intro w hSw
        try dsimp only at hSw
        go_simp
        try with_reducible rfl
      try simp only [Act.put, List.getElem_toArray, List.getElem_cons_zero, List.getElem_cons_succ, List.setIfInBounds_toArray, List.set_cons_zero, List.set_cons_succ]
      refine wpAnyH_take (i := 19) (v := ?_) rfl (by as_aux_lemma => kernel_rfl) (by as_aux_lemma => kernel_rfl) (by as_aux_lemma => kernel_rfl) (fun _ _ _ h => h) (Or.inl ⟨by rfl, ?_⟩) (by assumption) ?_
      rotate_left 1
      · intro w hSw
        try dsimp only at hSw
        go_simp
        try with_reducible rfl
      try simp only [Act.put, List.getElem_toArray, List.getElem_cons_zero, List.getElem_cons_succ, List.setIfInBounds_toArray, List.set_cons_zero, List.set_cons_succ]
      refine wpAnyH_take (i := 20) (v := ?_) rfl (by as_aux_lemma => kernel_rfl) (by as_aux_lemma => kernel_rfl) (by as_aux_lemma => kernel_rfl) (fun _ _ _ h => h) (Or.inl ⟨by rfl, ?_⟩) (by assumption) ?_
      rotate_left 1
      · intro w hSw
        try dsimp only at hSw
        go_simp
        try with_reducible rfl
      try simp only [Act.put, List.getElem_toArray, List.getElem_cons_zero, List.getElem_cons_succ, List.setIfInBounds_toArray, List.set_cons_zero, List.set_cons_succ]
      refine wpAnyH_take (i := 21) (v := ?_) rfl (by as_aux_lemma => kernel_rfl) (by as_aux_lemma => kernel_rfl) (by as_aux_lemma => kernel_rfl) (fun _ _ _ h => h) (Or.inl ⟨by rfl, ?_⟩) (by assumption) ?_
      rotate_left 1
      · intro w hSw
        try dsimp only at hSw
        go_simp
        try with_reducible rfl
      try simp only [Act.put, List.getElem_toArray, List.getElem_cons_zero, List.getElem_cons_succ, List.setIfInBounds_toArray, List.set_cons_zero, List.set_cons_succ]
      refine wpAnyH_take (i := 22) (v := ?_) rfl (by as_aux_lemma => kernel_rfl) (by as_aux_lemma => kernel_rfl) (by as_aux_lemma => kernel_rfl) (fun _ _ _ h => h) (Or.inl ⟨by rfl, ?_⟩) (by assumption) ?_
      rotate_left 1
      · intro w hSw
        try dsimp only at hSw
        go_simp
        try with_reducible rfl
      try simp only [Act.put, List.getElem_toArray, List.getElem_cons_zero, List.getElem_cons_succ, List.setIfInBounds_toArray, List.set_cons_zero, List.set_cons_succ]
      refine wpAnyH_take (i := 24) (v := ?_) rfl (by as_aux_lemma => kernel_rfl) (by as_aux_lemma => kernel_rfl) (by as_aux_lemma => kernel_rfl) (fun _ _ _ h => h) (Or.inl ⟨by rfl, ?_⟩) (by assumption) ?_
      rotate_left 1
      · intro w hSw
        try dsimp only at hSw
        go_simp
        try with_reducible rfl
      try simp only [Act.put, List.getElem_toArray, List.getElem_cons_zero, List.getElem_cons_succ, List.setIfInBounds_toArray, List.set_cons_zero, List.set_cons_succ]
      refine wpAnyH_ready (rs := [23]) (by as_aux_lemma => kernel_rfl) (by simp) ?_
      refine AllReadyH.cons rfl (fun K hK => ?_) AllReadyH.nil
      go_simp
      refine (impl_blockC S (some ⟨gB, 0, none⟩) M cB f (some ⟨gW, 0, none⟩) 6 c3 (invV vs) _ _ (ownS_rowP oB HOK.out) (oW.rowI HWI.out) (Nat.le_refl _)).mono ?_
      rintro e x22 ⟨rfl, hx22⟩
      rw [EW.out]
      replace bz := bz.trans (hx22.mono (by have := bz.size; omega))
      replace kB := kB.below hx22 (by have := kB.1; omega)
      replace kD := kD.below hx22 (by have := kD.1; omega)
      replace kC := kC.below hx22 (by have := kC.1; omega)
      replace kE := kE.below hx22 (by have := kE.1; omega)
      replace kP := kP.below hx22 (by have := kP.1; omega)
      replace oB := oB.keep hx22
      replace oV := oV.keep hx22
      replace oD := oD.keep hx22
      replace oW := oW.keep hx22
      replace oP := oP.keep hx22
      clear hx22
      go_wp2_with fail
      refine hK.out _ _ ?_ (fun hHeld => ?_)
      · first | trivial | ((try dsimp only); (exact ⟨kB.2 0 _ rfl, kB.2 1 _ rfl, kD.2 0 _ rfl, kD.2 1 _ rfl, kC.2 0 _ rfl, kC.2 1 _ rfl, kC.2 2 _ rfl, kE.2 0 _ rfl, kE.2 1 _ rfl, kE.2 2 _ rfl, kP.2 0 _ rfl, kP.2 1 _ rfl, (by rw [HX.out]; exact oV.cellAt (show (f 0 1).toNat < vs.length by rw [HV6.out]; omega)), (by rw [HY.out]; exact oV.cellAt (show (f 0 2).toNat < vs.length by rw [HV6.out]; omega))⟩))
      clear hK K
      try simp only [Act.put, List.getElem_toArray, List.getElem_cons_zero, List.getElem_cons_succ, List.setIfInBounds_toArray, List.set_cons_zero, List.set_cons_succ]
      refine wpAnyH_take (i := 25) (v := ?_) rfl (by as_aux_lemma => kernel_rfl) (by as_aux_lemma => kernel_rfl) (by as_aux_lemma => kernel_rfl) (fun _ _ _ h => h) (Or.inl ⟨by rfl, ?_⟩) (by assumption) ?_
      rotate_left 1
      · intro w hSw
        try dsimp only at hSw
        go_simp
        try with_reducible rfl
      try simp only [Act.put, List.getElem_toArray, List.getElem_cons_zero, List.getElem_cons_succ, List.setIfInBounds_toArray, List.set_cons_zero, List.set_cons_succ]
      refine wpAnyH_take (i := 26) (v := ?_) rfl (by as_aux_lemma => kernel_rfl) (by as_aux_lemma => kernel_rfl) (by as_aux_lemma => kernel_rfl) (fun _ _ _ h => h) (Or.inl ⟨by rfl, ?_⟩) (by assumption) ?_
      rotate_left 1
      · intro w hSw
        try dsimp only at hSw
        go_simp
        try with_reducible rfl
      try simp only [Act.put, List.getElem_toArray, List.getElem_cons_zero, List.getElem_cons_succ, List.setIfInBounds_toArray, List.set_cons_zero, List.set_cons_succ]
      refine wpAnyH_take (i := 27) (v := ?_) rfl (by as_aux_lemma => kernel_rfl) (by as_aux_lemma => kernel_rfl) (by as_aux_lemma => kernel_rfl) (fun _ _ _ h => h) (Or.inl ⟨by rfl, ?_⟩) (by assumption) ?_
      rotate_left 1
      · intro w hSw
        try dsimp only at hSw
        go_simp
        try with_reducible rfl
      try simp only [Act.put, List.getElem_toArray, List.getElem_cons_zero, List.getElem_cons_succ, List.setIfInBounds_toArray, List.set_cons_zero, List.set_cons_succ]
      refine wpAnyH_take (i := 28) (v := ?_) rfl (by as_aux_lemma => kernel_rfl) (by as_aux_lemma => kernel_rfl) (by as_aux_lemma => kernel_rfl) (fun _ _ _ h => h) (Or.inl ⟨by rfl, ?_⟩) (by assumption) ?_
      rotate_left 1
      · intro w hSw
        try dsimp only at hSw
        go_simp
        try with_reducible rfl
      try simp only [Act.put, List.getElem_toArray, List.getElem_cons_zero, List.getElem_cons_succ, List.setIfInBounds_toArray, List.set_cons_zero, List.set_cons_succ]
      refine wpAnyH_take (i := 29) (v := ?_) rfl (by as_aux_lemma => kernel_rfl) (by as_aux_lemma => kernel_rfl) (by as_aux_lemma => kernel_rfl) (fun _ _ _ h => h) (Or.inl ⟨by rfl, ?_⟩) (by assumption) ?_
      rotate_left 1
      · intro w hSw
        try dsimp only at hSw
        go_simp
        try with_reducible rfl
      try simp only [Act.put, List.getElem_toArray, List.getElem_cons_zero, List.getElem_cons_succ, List.setIfInBounds_toArray, List.set_cons_zero, List.set_cons_succ]
      refine wpAnyH_take (i := 31) (v := ?_) rfl (by as_aux_lemma => kernel_rfl) (by as_aux_lemma => kernel_rfl) (by as_aux_lemma => kernel_rfl) (fun _ _ _ h => h) (Or.inl ⟨by rfl, ?_⟩) (by assumption) ?_
      rotate_left 1
      · intro w hSw
        try dsimp only at hSw
        go_simp
        try with_reducible rfl
      try simp only [Act.put, List.getElem_toArray, List.getElem_cons_zero, List.getElem_cons_succ, List.setIfInBounds_toArray, List.set_cons_zero, List.set_cons_succ]
      refine wpAnyH_take (i := 33) (v := ?_) rfl (by as_aux_lemma => kernel_rfl) (by as_aux_lemma => kernel_rfl) (by as_aux_lemma => kernel_rfl) (fun _ _ _ h => h) (Or.inl ⟨by rfl, ?_⟩) (by assumption) ?_
      rotate_left 1
      · intro w hSw
        try dsimp only at hSw
        go_simp
        try with_reducible rfl
      try simp only [Act.put, List.getElem_toArray, List.getElem_cons_zero, List.getElem_cons_succ, List.setIfInBounds_toArray, List.set_cons_zero, List.set_cons_succ]
      refine wpAnyH_ready (rs := [30]) (by as_aux_lemma => kernel_rfl) (by simp) ?_
      refine AllReadyH.cons rfl (fun K hK => ?_) AllReadyH.nil
      go_simp
      refine (turnCell_any (f 0) _ HF0.out).mono ?_
      rintro e x23 ⟨rfl, hx23⟩
      replace bz := bz.trans (hx23.mono (by have := bz.size; omega))
      replace kB := kB.below hx23 (by have := kB.1; omega)
      replace kD := kD.below hx23 (by have := kD.1; omega)
      replace kC := kC.below hx23 (by have := kC.1; omega)
      replace kE := kE.below hx23 (by have := kE.1; omega)
      replace kP := kP.below hx23 (by have := kP.1; omega)
      replace oB := oB.keep hx23
      replace oV := oV.keep hx23
      replace oD := oD.keep hx23
      replace oW := oW.keep hx23
      replace oP := oP.keep hx23
      clear hx23
      go_wp2_with fail
      refine hK.out _ _ ?_ (fun hHeld => ?_)
      · first | trivial | ((try dsimp only); (exact ⟨kB.2 0 _ rfl, kB.2 1 _ rfl, kD.2 0 _ rfl, kD.2 1 _ rfl, kC.2 0 _ rfl, kC.2 1 _ rfl, kC.2 2 _ rfl, kE.2 0 _ rfl, kE.2 1 _ rfl, kE.2 2 _ rfl, kP.2 0 _ rfl, kP.2 1 _ rfl, (by rw [HX.out]; exact oV.cellAt (show (f 0 1).toNat < vs.length by rw [HV6.out]; omega)), (by rw [HY.out]; exact oV.cellAt (show (f 0 2).toNat < vs.length by rw [HV6.out]; omega))⟩))
      clear hK K
      try simp only [Act.put, List.getElem_toArray, List.getElem_cons_zero, List.getElem_cons_succ, List.setIfInBounds_toArray, List.set_cons_zero, List.set_cons_succ]
      refine wpAnyH_ready (rs := [32]) (by as_aux_lemma => kernel_rfl) (by simp) ?_
      refine AllReadyH.cons rfl (fun K hK => ?_) AllReadyH.nil
      go_simp
      refine (turnCell_any (f L) _ HFL.out).mono ?_
      rintro e x24 ⟨rfl, hx24⟩
      replace bz := bz.trans (hx24.mono (by have := bz.size; omega))
      replace kB := kB.below hx24 (by have := kB.1; omega)
      replace kD := kD.below hx24 (by have := kD.1; omega)
      replace kC := kC.below hx24 (by have := kC.1; omega)
      replace kE := kE.below hx24 (by have := kE.1; omega)
      replace kP := kP.below hx24 (by have := kP.1; omega)
      replace oB := oB.keep hx24
      replace oV := oV.keep hx24
      replace oD := oD.keep hx24
      replace oW := oW.keep hx24
      replace oP := oP.keep hx24
      clear hx24
      go_wp2_with fail
      refine hK.out _ _ ?_ (fun hHeld => ?_)
      · first | trivial | ((try dsimp only); (exact ⟨kB.2 0 _ rfl, kB.2 1 _ rfl, kD.2 0 _ rfl, kD.2 1 _ rfl, kC.2 0 _ rfl, kC.2 1 _ rfl, kC.2 2 _ rfl, kE.2 0 _ rfl, kE.2 1 _ rfl, kE.2 2 _ rfl, kP.2 0 _ rfl, kP.2 1 _ rfl, (by rw [HX.out]; exact oV.cellAt (show (f 0 1).toNat < vs.length by rw [HV6.out]; omega)), (by rw [HY.out]; exact oV.cellAt (show (f 0 2).toNat < vs.length by rw [HV6.out]; omega))⟩))
      clear hK K
      try simp only [Act.put, List.getElem_toArray, List.getElem_cons_zero, List.getElem_cons_succ, List.setIfInBounds_toArray, List.set_cons_zero, List.set_cons_succ]
      refine wpAnyH_ready (rs := [34]) (by as_aux_lemma => kernel_rfl) (by simp) ?_
      refine AllReadyH.cons rfl (fun K hK => ?_) AllReadyH.nil
      go_simp
      refine (impl_edge (turnC (f 0)) (turnC (f L)) false (some ⟨gV, 0, none⟩) 6 cV vs _ _ (oV.rowI HW.out) (Nat.le_refl _)).mono ?_
      rintro e x25 ⟨rfl, hx25⟩
      rw [HE.out]
      replace bz := bz.trans (hx25.mono (by have := bz.size; omega))
      replace kB := kB.below hx25 (by have := kB.1; omega)
      replace kD := kD.below hx25 (by have := kD.1; omega)
      replace kC := kC.below hx25 (by have := kC.1; omega)
      replace kE := kE.below hx25 (by have := kE.1; omega)
      replace kP := kP.below hx25 (by have := kP.1; omega)
      replace oB := oB.keep hx25
      replace oV := oV.keep hx25
      replace oD := oD.keep hx25
      replace oW := oW.keep hx25
      replace oP := oP.keep hx25
      clear hx25
      go_wp2_with fail
      refine hK.out _ _ ?_ (fun hHeld => ?_)
      · first | trivial | ((try dsimp only); (exact ⟨kB.2 0 _ rfl, kB.2 1 _ rfl, kD.2 0 _ rfl, kD.2 1 _ rfl, kC.2 0 _ rfl, kC.2 1 _ rfl, kC.2 2 _ rfl, kE.2 0 _ rfl, kE.2 1 _ rfl, kE.2 2 _ rfl, kP.2 0 _ rfl, kP.2 1 _ rfl, (by rw [HX.out]; exact oV.cellAt (show (f 0 1).toNat < vs.length by rw [HV6.out]; omega)), (by rw [HY.out]; exact oV.cellAt (show (f 0 2).toNat < vs.length by rw [HV6.out]; omega))⟩))
      clear hK K
      try simp only [Act.put, List.getElem_toArray, List.getElem_cons_zero, List.getElem_cons_succ, List.setIfInBounds_toArray, List.set_cons_zero, List.set_cons_succ]
      refine wpAnyH_take (i := 35) (v := ?_) rfl (by as_aux_lemma => kernel_rfl) (by as_aux_lemma => kernel_rfl) (by as_aux_lemma => kernel_rfl) (fun _ _ _ h => h) (Or.inl ⟨by rfl, ?_⟩) (by assumption) ?_
      rotate_left 1
      · intro w hSw
        try dsimp only at hSw
        go_simp
        try with_reducible rfl
      try simp only [Act.put, List.getElem_toArray, List.getElem_cons_zero, List.getElem_cons_succ, List.setIfInBounds_toArray, List.set_cons_zero, List.set_cons_succ]
      refine wpAnyH_take (i := 36) (v := ?_) rfl (by as_aux_lemma => kernel_rfl) (by as_aux_lemma => kernel_rfl) (by as_aux_lemma => kernel_rfl) (fun _ _ _ h => h) (Or.inl ⟨by rfl, ?_⟩) (by assumption) ?_
      rotate_left 1
      · intro w hSw
        try dsimp only at hSw
        go_simp
        try with_reducible rfl
      try simp only [Act.put, List.getElem_toArray, List.getElem_cons_zero, List.getElem_cons_succ, List.setIfInBounds_toArray, List.set_cons_zero, List.set_cons_succ]
      refine wpAnyH_take (i := 37) (v := ?_) rfl (by as_aux_lemma => kernel_rfl) (by as_aux_lemma => kernel_rfl) (by as_aux_lemma => kernel_rfl) (fun _ _ _ h => h) (Or.inl ⟨by rfl, ?_⟩) (by assumption) ?_
      rotate_left 1
      · intro w hSw
        try dsimp only at hSw
        go_simp
        try with_reducible rfl
      try simp only [Act.put, List.getElem_toArray, List.getElem_cons_zero, List.getElem_cons_succ, List.setIfInBounds_toArray, List.set_cons_zero, List.set_cons_succ]
      refine wpAnyH_take (i := 38) (v := ?_) rfl (by as_aux_lemma => kernel_rfl) (by as_aux_lemma => kernel_rfl) (by as_aux_lemma => kernel_rfl) (fun _ _ _ h => h) (Or.inl ⟨by rfl, ?_⟩) (by assumption) ?_
      rotate_left 1
      · intro w hSw
        try dsimp only at hSw
        go_simp
        try with_reducible rfl
      try simp only [Act.put, List.getElem_toArray, List.getElem_cons_zero, List.getElem_cons_succ, List.setIfInBounds_toArray, List.set_cons_zero, List.set_cons_succ]
      refine wpAnyH_take (i := 39) (v := ?_) rfl (by as_aux_lemma => kernel_rfl) (by as_aux_lemma => kernel_rfl) (by as_aux_lemma => kernel_rfl) (fun _ _ _ h => h) (Or.inl ⟨by rfl, ?_⟩) (by assumption) ?_
      rotate_left 1
      · intro w hSw
        try dsimp only at hSw
        go_simp
        try with_reducible rfl
      try simp only [Act.put, List.getElem_toArray, List.getElem_cons_zero, List.getElem_cons_succ, List.setIfInBounds_toArray, List.set_cons_zero, List.set_cons_succ]
      refine wpAnyH_take (i := 40) (v := ?_) rfl (by as_aux_lemma => kernel_rfl) (by as_aux_lemma => kernel_rfl) (by as_aux_lemma => kernel_rfl) (fun _ _ _ h => h) (Or.inl ⟨by rfl, ?_⟩) (by assumption) ?_
      rotate_left 1
      · intro w hSw
        try dsimp only at hSw
        go_simp
        try with_reducible rfl
      try simp only [Act.put, List.getElem_toArray, List.getElem_cons_zero, List.getElem_cons_succ, List.setIfInBounds_toArray, List.set_cons_zero, List.set_cons_succ]
      refine wpAnyH_take (i := 41) (v := ?_) rfl (by as_aux_lemma => kernel_rfl) (by as_aux_lemma => kernel_rfl) (by as_aux_lemma => kernel_rfl) (fun _ _ _ h => h) (Or.inl ⟨by rfl, ?_⟩) (by assumption) ?_
      rotate_left 1
      · intro w hSw
        try dsimp only at hSw
        go_simp
        try with_reducible rfl
      try simp only [Act.put, List.getElem_toArray, List.getElem_cons_zero, List.getElem_cons_succ, List.setIfInBounds_toArray, List.set_cons_zero, List.set_cons_succ]
      refine wpAnyH_take (i := 42) (v := ?_) rfl (by as_aux_lemma => kernel_rfl) (by as_aux_lemma => kernel_rfl) (by as_aux_lemma => kernel_rfl) (fun _ _ _ h => h) (Or.inl ⟨by rfl, ?_⟩) (by assumption) ?_
      rotate_left 1
      · intro w hSw
        try dsimp only at hSw
        go_simp
        try with_reducible rfl
      try simp only [Act.put, List.getElem_toArray, List.getElem_cons_zero, List.getElem_cons_succ, List.setIfInBounds_toArray, List.set_cons_zero, List.set_cons_succ]
      refine wpAnyH_take (i := 43) (v := ?_) rfl (by as_aux_lemma => kernel_rfl) (by as_aux_lemma => kernel_rfl) (by as_aux_lemma => kernel_rfl) (fun _ _ _ h => h) (Or.inl ⟨by rfl, ?_⟩) (by assumption) ?_
      rotate_left 1
      · intro w hSw
        try dsimp only at hSw
        go_simp
        try with_reducible rfl
      try simp only [Act.put, List.getElem_toArray, List.getElem_cons_zero, List.getElem_cons_succ, List.setIfInBounds_toArray, List.set_cons_zero, List.set_cons_succ]
      refine wpAnyH_take (i := 44) (v := ?_) rfl (by as_aux_lemma => kernel_rfl) (by as_aux_lemma => kernel_rfl) (by as_aux_lemma => kernel_rfl) (fun _ _ _ h => h) (Or.inl ⟨by rfl, ?_⟩) (by assumption) ?_
      rotate_left 1
      · intro w hSw
        try dsimp only at hSw
        go_simp
        try with_reducible rfl
      try simp only [Act.put, List.getElem_toArray, List.getElem_cons_zero, List.getElem_cons_succ, List.setIfInBounds_toArray, List.set_cons_zero, List.set_cons_succ]
      refine wpAnyH_take (i := 45) (v := ?_) rfl (by as_aux_lemma => kernel_rfl) (by as_aux_lemma => kernel_rfl) (by as_aux_lemma => kernel_rfl) (fun _ _ _ h => h) (Or.inl ⟨by rfl, ?_⟩) (by assumption) ?_
      rotate_left 1
      · intro w hSw
        try dsimp only at hSw
        go_simp
        try with_reducible rfl
      try simp only [Act.put, List.getElem_toArray, List.getElem_cons_zero, List.getElem_cons_succ, List.setIfInBounds_toArray, List.set_cons_zero, List.set_cons_succ]
      refine wpAnyH_take (i := 46) (v := ?_) rfl (by as_aux_lemma => kernel_rfl) (by as_aux_lemma => kernel_rfl) (by as_aux_lemma => kernel_rfl) (fun _ _ _ h => h) (Or.inl ⟨by rfl, ?_⟩) (by assumption) ?_
      rotate_left 1
      · intro w hSw
        try dsimp only at hSw
        go_simp
        try with_reducible rfl
      try simp only [Act.put, List.getElem_toArray, List.getElem_cons_zero, List.getElem_cons_succ, List.setIfInBounds_toArray, List.set_cons_zero, List.set_cons_succ]
      refine wpAnyH_take (i := 47) (v := ?_) rfl (by as_aux_lemma => kernel_rfl) (by as_aux_lemma => kernel_rfl) (by as_aux_lemma => kernel_rfl) (fun _ _ _ h => h) (Or.inl ⟨by rfl, ?_⟩) (by assumption) ?_
      rotate_left 1
      · intro w hSw
        try dsimp only at hSw
        go_simp
        try with_reducible rfl
      try simp only [Act.put, List.getElem_toArray, List.getElem_cons_zero, List.getElem_cons_succ, List.setIfInBounds_toArray, List.set_cons_zero, List.set_cons_succ]
      refine wpAnyH_take (i := 49) (v := ?_) rfl (by as_aux_lemma => kernel_rfl) (by as_aux_lemma => kernel_rfl) (by as_aux_lemma => kernel_rfl) (fun _ _ _ h => h) (Or.inl ⟨by rfl, ?_⟩) (by assumption) ?_
      rotate_left 1
      · intro w hSw
        try dsimp only at hSw
        go_simp
        try with_reducible rfl
      try simp only [Act.put, List.getElem_toArray, List.getElem_cons_zero, List.getElem_cons_succ, List.setIfInBounds_toArray, List.set_cons_zero, List.set_cons_succ]
      refine wpAnyH_take (i := 50) (v := ?_) rfl (by as_aux_lemma => kernel_rfl) (by as_aux_lemma => kernel_rfl) (by as_aux_lemma => kernel_rfl) (fun _ _ _ h => h) (Or.inl ⟨by rfl, ?_⟩) (by assumption) ?_
      rotate_left 1
      · intro w hSw
        try dsimp only at hSw
        go_simp
        try with_reducible rfl
      try simp only [Act.put, List.getElem_toArray, List.getElem_cons_zero, List.getElem_cons_succ, List.setIfInBounds_toArray, List.set_cons_zero, List.set_cons_succ]
      refine wpAnyH_take (i := 51) (v := ?_) rfl (by as_aux_lemma => kernel_rfl) (by as_aux_lemma => kernel_rfl) (by as_aux_lemma => kernel_rfl) (fun _ _ _ h => h) (Or.inl ⟨by rfl, ?_⟩) (by assumption) ?_
      rotate_left 1
      · intro w hSw
        try dsimp only at hSw
        go_simp
        try with_reducible rfl
      try simp only [Act.put, List.getElem_toArray, List.getElem_cons_zero, List.getElem_cons_succ, List.setIfInBounds_toArray, List.set_cons_zero, List.set_cons_succ]
      refine wpAnyH_take (i := 52) (v := ?_) rfl (by as_aux_lemma => kernel_rfl) (by as_aux_lemma => kernel_rfl) (by as_aux_lemma => kernel_rfl) (fun _ _ _ h => h) (Or.inl ⟨by rfl, ?_⟩) (by assumption) ?_
      rotate_left 1
      · intro w hSw
        try dsimp only at hSw
        go_simp
        try with_reducible rfl
      try simp only [Act.put, List.getElem_toArray, List.getElem_cons_zero, List.getElem_cons_succ, List.setIfInBounds_toArray, List.set_cons_zero, List.set_cons_succ]
      refine wpAnyH_take (i := 53) (v := ?_) rfl (by as_aux_lemma => kernel_rfl) (by as_aux_lemma => kernel_rfl) (by as_aux_lemma => kernel_rfl) (fun _ _ _ h => h) (Or.inl ⟨by rfl, ?_⟩) (by assumption) ?_
      rotate_left 1
      · intro w hSw
        try dsimp only at hSw
        go_simp
        try with_reducible rfl
      try simp only [Act.put, List.getElem_toArray, List.getElem_cons_zero, List.getElem_cons_succ, List.setIfInBounds_toArray, List.set_cons_zero, List.set_cons_succ]
      refine wpAnyH_take (i := 54) (v := ?_) rfl (by as_aux_lemma => kernel_rfl) (by as_aux_lemma => kernel_rfl) (by as_aux_lemma => kernel_rfl) (fun _ _ _ h => h) (Or.inl ⟨by rfl, ?_⟩) (by assumption) ?_
      rotate_left 1
      · intro w hSw
        try dsimp only at hSw
        go_simp
        try with_reducible rfl
      try simp only [Act.put, List.getElem_toArray, List.getElem_cons_zero, List.getElem_cons_succ, List.setIfInBounds_toArray, List.set_cons_zero, List.set_cons_succ]
      refine wpAnyH_take (i := 55) (v := ?_) rfl (by as_aux_lemma => kernel_rfl) (by as_aux_lemma => kernel_rfl) (by as_aux_lemma => kernel_rfl) (fun _ _ _ h => h) (Or.inl ⟨by rfl, ?_⟩) (by assumption) ?_
      rotate_left 1
      · intro w hSw
        try dsimp only at hSw
        go_simp
        try with_reducible rfl
      try simp only [Act.put, List.getElem_toArray, List.getElem_cons_zero, List.getElem_cons_succ, List.setIfInBounds_toArray, List.set_cons_zero, List.set_cons_succ]
      refine wpAnyH_take (i := 56) (v := ?_) rfl (by as_aux_lemma => kernel_rfl) (by as_aux_lemma => kernel_rfl) (by as_aux_lemma => kernel_rfl) (fun _ _ _ h => h) (Or.inl ⟨by rfl, ?_⟩) (by assumption) ?_
      rotate_left 1
      · intro w hSw
        try dsimp only at hSw
        go_simp
        try with_reducible rfl
      try simp only [Act.put, List.getElem_toArray, List.getElem_cons_zero, List.getElem_cons_succ, List.setIfInBounds_toArray, List.set_cons_zero, List.set_cons_succ]
      refine wpAnyH_take (i := 57) (v := ?_) rfl (by as_aux_lemma => kernel_rfl) (by as_aux_lemma => kernel_rfl) (by as_aux_lemma => kernel_rfl) (fun _ _ _ h => h) (Or.inl ⟨by rfl, ?_⟩) (by assumption) ?_
      rotate_left 1
      · intro w hSw
        try dsimp only at hSw
        go_simp
        try with_reducible rfl
      try simp only [Act.put, List.getElem_toArray, List.getElem_cons_zero, List.getElem_cons_succ, List.setIfInBounds_toArray, List.set_cons_zero, List.set_cons_succ]
      refine wpAnyH_take (i := 58) (v := ?_) rfl (by as_aux_lemma => kernel_rfl) (by as_aux_lemma => kernel_rfl) (by as_aux_lemma => kernel_rfl) (fun _ _ _ h => h) (Or.inl ⟨by rfl, ?_⟩) (by assumption) ?_
      rotate_left 1
      · intro w hSw
        try dsimp only at hSw
        go_simp
        try with_reducible rfl
      try simp only [Act.put, List.getElem_toArray, List.getElem_cons_zero, List.getElem_cons_succ, List.setIfInBounds_toArray, List.set_cons_zero, List.set_cons_succ]
      refine wpAnyH_take (i := 59) (v := ?_) rfl (by as_aux_lemma => kernel_rfl) (by as_aux_lemma => kernel_rfl) (by as_aux_lemma => kernel_rfl) (fun _ _ _ h => h) (Or.inl ⟨by rfl, ?_⟩) (by assumption) ?_
      rotate_left 1
      · intro w hSw
        try dsimp only at hSw
        go_simp
        try with_reducible rfl
      try simp only [Act.put, List.getElem_toArray, List.getElem_cons_zero, List.getElem_cons_succ, List.setIfInBounds_toArray, List.set_cons_zero, List.set_cons_succ]
      refine wpAnyH_take (i := 60) (v := ?_) rfl (by as_aux_lemma => kernel_rfl) (by as_aux_lemma => kernel_rfl) (by as_aux_lemma => kernel_rfl) (fun _ _ _ h => h) (Or.inl ⟨by rfl, ?_⟩) (by assumption) ?_
      rotate_left 1
      · intro w hSw
        try dsimp only at hSw
        go_simp
        try with_reducible rfl
      try simp only [Act.put, List.getElem_toArray, List.getElem_cons_zero, List.getElem_cons_succ, List.setIfInBounds_toArray, List.set_cons_zero, List.set_cons_succ]
      refine wpAnyH_take (i := 61) (v := ?_) rfl (by as_aux_lemma => kernel_rfl) (by as_aux_lemma => kernel_rfl) (by as_aux_lemma => kernel_rfl) (fun _ _ _ h => h) (Or.inl ⟨by rfl, ?_⟩) (by assumption) ?_
      rotate_left 1
      · intro w hSw
        try dsimp only at hSw
        go_simp
        try with_reducible rfl
      try simp only [Act.put, List.getElem_toArray, List.getElem_cons_zero, List.getElem_cons_succ, List.setIfInBounds_toArray, List.set_cons_zero, List.set_cons_succ]
      refine wpAnyH_take (i := 62) (v := ?_) rfl (by as_aux_lemma => kernel_rfl) (by as_aux_lemma => kernel_rfl) (by as_aux_lemma => kernel_rfl) (fun _ _ _ h => h) (Or.inl ⟨by rfl, ?_⟩) (by assumption) ?_
      rotate_left 1
      · intro w hSw
        try dsimp only at hSw
        go_simp
        try with_reducible rfl
      try simp only [Act.put, List.getElem_toArray, List.getElem_cons_zero, List.getElem_cons_succ, List.setIfInBounds_toArray, List.set_cons_zero, List.set_cons_succ]
      refine wpAnyH_take (i := 63) (v := ?_) rfl (by as_aux_lemma => kernel_rfl) (by as_aux_lemma => kernel_rfl) (by as_aux_lemma => kernel_rfl) (fun _ _ _ h => h) (Or.inl ⟨by rfl, ?_⟩) (by assumption) ?_
      rotate_left 1
      · intro w hSw
        try dsimp only at hSw
        go_simp
        try with_reducible rfl
      try simp only [Act.put, List.getElem_toArray, List.getElem_cons_zero, List.getElem_cons_succ, List.setIfInBounds_toArray, List.set_cons_zero, List.set_cons_succ]
      refine wpAnyH_take (i := 64) (v := ?_) rfl (by as_aux_lemma => kernel_rfl) (by as_aux_lemma => kernel_rfl) (by as_aux_lemma => kernel_rfl) (fun _ _ _ h => h) (Or.inl ⟨by rfl, ?_⟩) (by assumption) ?_
      rotate_left 1
      · intro w hSw
        try dsimp only at hSw
        go_simp
        try with_reducible rfl
      try simp only [Act.put, List.getElem_toArray, List.getElem_cons_zero, List.getElem_cons_succ, List.setIfInBounds_toArray, List.set_cons_zero, List.set_cons_succ]
      refine wpAnyH_take (i := 65) (v := ?_) rfl (by as_aux_lemma => kernel_rfl) (by as_aux_lemma => kernel_rfl) (by as_aux_lemma => kernel_rfl) (fun _ _ _ h => h) (Or.inl ⟨by rfl, ?_⟩) (by assumption) ?_
      rotate_left 1
      · intro w hSw
        try dsimp only at hSw
        go_simp
        try with_reducible rfl
      try simp only [Act.put, List.getElem_toArray, List.getElem_cons_zero, List.getElem_cons_succ, List.setIfInBounds_toArray, List.set_cons_zero, List.set_cons_succ]
      refine wpAnyH_take (i := 66) (v := ?_) rfl (by as_aux_lemma => kernel_rfl) (by as_aux_lemma => kernel_rfl) (by as_aux_lemma => kernel_rfl) (fun _ _ _ h => h) (Or.inl ⟨by rfl, ?_⟩) (by assumption) ?_
      rotate_left 1
      · intro w hSw
        try dsimp only at hSw
        go_simp
        try with_reducible rfl
      try simp only [Act.put, List.getElem_toArray, List.getElem_cons_zero, List.getElem_cons_succ, List.setIfInBounds_toArray, List.set_cons_zero, List.set_cons_succ]
      refine wpAnyH_take (i := 67) (v := ?_) rfl (by as_aux_lemma => kernel_rfl) (by as_aux_lemma => kernel_rfl) (by as_aux_lemma => kernel_rfl) (fun _ _ _ h => h) (Or.inl ⟨by rfl, ?_⟩) (by assumption) ?_
      rotate_left 1
      · intro w hSw
        try dsimp only at hSw
        go_simp
        try with_reducible rfl
      try simp only [Act.put, List.getElem_toArray, List.getElem_cons_zero, List.getElem_cons_succ, List.setIfInBounds_toArray, List.set_cons_zero, List.set_cons_succ]
      refine wpAnyH_take (i := 68) (v := ?_) rfl (by as_aux_lemma => kernel_rfl) (by as_aux_lemma => kernel_rfl) (by as_aux_lemma => kernel_rfl) (fun _ _ _ h => h) (Or.inl ⟨by rfl, ?_⟩) (by assumption) ?_
      rotate_left 1
      · intro w hSw
        try dsimp only at hSw
        go_simp
        try with_reducible rfl
      try simp only [Act.put, List.getElem_toArray, List.getElem_cons_zero, List.getElem_cons_succ, List.setIfInBounds_toArray, List.set_cons_zero, List.set_cons_succ]
      refine wpAnyH_take (i := 69) (v := ?_) rfl (by as_aux_lemma => kernel_rfl) (by as_aux_lemma => kernel_rfl) (by as_aux_lemma => kernel_rfl) (fun _ _ _ h => h) (Or.inl ⟨by rfl, ?_⟩) (by assumption) ?_
      rotate_left 1
      · intro w hSw
        try dsimp only at hSw
        go_simp
        try with_reducible rfl
      try simp only [Act.put, List.getElem_toArray, List.getElem_cons_zero, List.getElem_cons_succ, List.setIfInBounds_toArray, List.set_cons_zero, List.set_cons_succ]
      refine wpAnyH_take (i := 70) (v := ?_) rfl (by as_aux_lemma => kernel_rfl) (by as_aux_lemma => kernel_rfl) (by as_aux_lemma => kernel_rfl) (fun _ _ _ h => h) (Or.inl ⟨by rfl, ?_⟩) (by assumption) ?_
      rotate_left 1
      · intro w hSw
        try dsimp only at hSw
        go_simp
        try with_reducible rfl
      try simp only [Act.put, List.getElem_toArray, List.getElem_cons_zero, List.getElem_cons_succ, List.setIfInBounds_toArray, List.set_cons_zero, List.set_cons_succ]
      refine wpAnyH_take (i := 71) (v := ?_) rfl (by as_aux_lemma => kernel_rfl) (by as_aux_lemma => kernel_rfl) (by as_aux_lemma => kernel_rfl) (fun _ _ _ h => h) (Or.inl ⟨by rfl, ?_⟩) (by assumption) ?_
      rotate_left 1
      · intro w hSw
        try dsimp only at hSw
        go_simp
        try with_reducible rfl
      try simp only [Act.put, List.getElem_toArray, List.getElem_cons_zero, List.getElem_cons_succ, List.setIfInBounds_toArray, List.set_cons_zero, List.set_cons_succ]
      refine wpAnyH_ready (rs := [48]) (by as_aux_lemma => kernel_rfl) (by simp) ?_
      refine AllReadyH.cons rfl (fun K hK => ?_) AllReadyH.nil
      go_simp
      refine (impl_inner (f 0) (some ⟨gV, 0, none⟩) 6 cV vs _ _ (oV.rowI HW.out) (Nat.le_refl _)).mono ?_
      rintro e x26 ⟨rfl, hx26⟩
      rw [EI.out]
      replace bz := bz.trans (hx26.mono (by have := bz.size; omega))
      replace kB := kB.below hx26 (by have := kB.1; omega)
      replace kD := kD.below hx26 (by have := kD.1; omega)
      replace kC := kC.below hx26 (by have := kC.1; omega)
      replace kE := kE.below hx26 (by have := kE.1; omega)
      replace kP := kP.below hx26 (by have := kP.1; omega)
      replace oB := oB.keep hx26
      replace oV := oV.keep hx26
      replace oD := oD.keep hx26
      replace oW := oW.keep hx26
      replace oP := oP.keep hx26
      clear hx26
      go_wp2_with fail
      refine hK.out _ _ ?_ (fun hHeld => ?_)
      · first | trivial | ((try dsimp only); (exact ⟨kB.2 0 _ rfl, kB.2 1 _ rfl, kD.2 0 _ rfl, kD.2 1 _ rfl, kC.2 0 _ rfl, kC.2 1 _ rfl, kC.2 2 _ rfl, kE.2 0 _ rfl, kE.2 1 _ rfl, kE.2 2 _ rfl, kP.2 0 _ rfl, kP.2 1 _ rfl, (by rw [HX.out]; exact oV.cellAt (show (f 0 1).toNat < vs.length by rw [HV6.out]; omega)), (by rw [HY.out]; exact oV.cellAt (show (f 0 2).toNat < vs.length by rw [HV6.out]; omega))⟩))
      clear hK K
      try simp only [Act.put, List.getElem_toArray, List.getElem_cons_zero, List.getElem_cons_succ, List.setIfInBounds_toArray, List.set_cons_zero, List.set_cons_succ]
      refine wpAnyH_take (i := 72) (v := ?_) rfl (by as_aux_lemma => kernel_rfl) (by as_aux_lemma => kernel_rfl) (by as_aux_lemma => kernel_rfl) (fun _ _ _ h => h) (Or.inl ⟨by rfl, ?_⟩) (by assumption) ?_
      rotate_left 1
      · intro w hSw
        try dsimp only at hSw
        go_simp
        try with_reducible rfl
      try simp only [Act.put, List.getElem_toArray, List.getElem_cons_zero, List.getElem_cons_succ, List.setIfInBounds_toArray, List.set_cons_zero, List.set_cons_succ]
      refine wpAnyH_take (i := 73) (v := ?_) rfl (by as_aux_lemma => kernel_rfl) (by as_aux_lemma => kernel_rfl) (by as_aux_lemma => kernel_rfl) (fun _ _ _ h => h) (Or.inl ⟨by rfl, ?_⟩) (by assumption) ?_
      rotate_left 1
      · intro w hSw
        try dsimp only at hSw
        go_simp
        try with_reducible rfl
      try simp only [Act.put, List.getElem_toArray, List.getElem_cons_zero, List.getElem_cons_succ, List.setIfInBounds_toArray, List.set_cons_zero, List.set_cons_succ]
      refine wpAnyH_take (i := 74) (v := ?_) rfl (by as_aux_lemma => kernel_rfl) (by as_aux_lemma => kernel_rfl) (by as_aux_lemma => kernel_rfl) (fun _ _ _ h => h) (Or.inl ⟨by rfl, ?_⟩) (by assumption) ?_
      rotate_left 1
      · intro w hSw
        try dsimp only at hSw
        go_simp
        try with_reducible rfl
      try simp only [Act.put, List.getElem_toArray, List.getElem_cons_zero, List.getElem_cons_succ, List.setIfInBounds_toArray, List.set_cons_zero, List.set_cons_succ]
      refine wpAnyH_take (i := 75) (v := ?_) rfl (by as_aux_lemma => kernel_rfl) (by as_aux_lemma => kernel_rfl) (by as_aux_lemma => kernel_rfl) (fun _ _ _ h => h) (Or.inl ⟨by rfl, ?_⟩) (by assumption) ?_
      rotate_left 1
      · intro w hSw
        try dsimp only at hSw
        go_simp
        try with_reducible rfl
      try simp only [Act.put, List.getElem_toArray, List.getElem_cons_zero, List.getElem_cons_succ, List.setIfInBounds_toArray, List.set_cons_zero, List.set_cons_succ]
      refine wpAnyH_take (i := 76) (v := ?_) rfl (by as_aux_lemma => kernel_rfl) (by as_aux_lemma => kernel_rfl) (by as_aux_lemma => kernel_rfl) (fun _ _ _ h => h) (Or.inl ⟨by rfl, ?_⟩) (by assumption) ?_
      rotate_left 1
      · intro w hSw
        try dsimp only at hSw
        go_simp
        try with_reducible rfl
      try simp only [Act.put, List.getElem_toArray, List.getElem_cons_zero, List.getElem_cons_succ, List.setIfInBounds_toArray, List.set_cons_zero, List.set_cons_succ]
      refine wpAnyH_take (i := 77) (v := ?_) rfl (by as_aux_lemma => kernel_rfl) (by as_aux_lemma => kernel_rfl) (by as_aux_lemma => kernel_rfl) (fun _ _ _ h => h) (Or.inl ⟨by rfl, ?_⟩) (by assumption) ?_
      rotate_left 1
      · intro w hSw
        try dsimp only at hSw
        go_simp
        try with_reducible rfl
      try simp only [Act.put, List.getElem_toArray, List.getElem_cons_zero, List.getElem_cons_succ, List.setIfInBounds_toArray, List.set_cons_zero, List.set_cons_succ]
      refine wpAnyH_take (i := 78) (v := ?_) rfl (by as_aux_lemma => kernel_rfl) (by as_aux_lemma => kernel_rfl) (by as_aux_lemma => kernel_rfl) (fun _ _ _ h => h) (Or.inl ⟨by rfl, ?_⟩) (by assumption) ?_
      rotate_left 1
      · intro w hSw
        try dsimp only at hSw
        go_simp
        try with_reducible rfl
      try simp only [Act.put, List.getElem_toArray, List.getElem_cons_zero, List.getElem_cons_succ, List.setIfInBounds_toArray, List.set_cons_zero, List.set_cons_succ]
      refine wpAnyH_take (i := 79) (v := ?_) rfl (by as_aux_lemma => kernel_rfl) (by as_aux_lemma => kernel_rfl) (by as_aux_lemma => kernel_rfl) (fun _ _ _ h => h) (Or.inl ⟨by rfl, ?_⟩) (by assumption) ?_
      rotate_left 1
      · intro w hSw
        try dsimp only at hSw
        go_simp
        try with_reducible rfl
      try simp only [Act.put, List.getElem_toArray, List.getElem_cons_zero, List.getElem_cons_succ, List.setIfInBounds_toArray, List.set_cons_zero, List.set_cons_succ]
      refine wpAnyH_take (i := 80) (v := ?_) rfl (by as_aux_lemma => kernel_rfl) (by as_aux_lemma => kernel_rfl) (by as_aux_lemma => kernel_rfl) (fun _ _ _ h => h) (Or.inl ⟨by rfl, ?_⟩) (by assumption) ?_
      rotate_left 1
      · intro w hSw
        try dsimp only at hSw
        go_simp
        try with_reducible rfl
      try simp only [Act.put, List.getElem_toArray, List.getElem_cons_zero, List.getElem_cons_succ, List.setIfInBounds_toArray, List.set_cons_zero, List.set_cons_succ]
      refine wpAnyH_take (i := 81) (v := ?_) rfl (by as_aux_lemma => kernel_rfl) (by as_aux_lemma => kernel_rfl) (by as_aux_lemma => kernel_rfl) (fun _ _ _ h => h) (Or.inl ⟨by rfl, ?_⟩) (by assumption) ?_
      rotate_left 1
      · intro w hSw
        try dsimp only at hSw
        go_simp
        try with_reducible rfl
      try simp only [Act.put, List.getElem_toArray, List.getElem_cons_zero, List.getElem_cons_succ, List.setIfInBounds_toArray, List.set_cons_zero, List.set_cons_succ]
      refine wpAnyH_take (i := 82) (v := undef) rfl (by as_aux_lemma => kernel_rfl) (by as_aux_lemma => kernel_rfl) (by as_aux_lemma => kernel_rfl) (fun _ _ _ h => h) (Or.inr ⟨by rfl, rfl⟩) (by assumption) ?_
      try simp only [Act.put, List.getElem_toArray, List.getElem_cons_zero, List.getElem_cons_succ, List.setIfInBounds_toArray, List.set_cons_zero, List.set_cons_succ]
      refine wpAnyH_take (i := 83) (v := undef) rfl (by as_aux_lemma => kernel_rfl) (by as_aux_lemma => kernel_rfl) (by as_aux_lemma => kernel_rfl) (fun _ _ _ h => h) (Or.inr ⟨by rfl, rfl⟩) (by assumption) ?_
      try simp only [Act.put, List.getElem_toArray, List.getElem_cons_zero, List.getElem_cons_succ, List.setIfInBounds_toArray, List.set_cons_zero, List.set_cons_succ]
      refine wpAnyH_take (i := 84) (v := undef) rfl (by as_aux_lemma => kernel_rfl) (by as_aux_lemma => kernel_rfl) (by as_aux_lemma => kernel_rfl) (fun _ _ _ h => h) (Or.inr ⟨by rfl, rfl⟩) (by assumption) ?_
      try simp only [Act.put, List.getElem_toArray, List.getElem_cons_zero, List.getElem_cons_succ, List.setIfInBounds_toArray, List.set_cons_zero, List.set_cons_succ]
      refine wpAnyH_take (i := 85) (v := ?_) rfl (by as_aux_lemma => kernel_rfl) (by as_aux_lemma => kernel_rfl) (by as_aux_lemma => kernel_rfl) (fun _ _ _ h => h) (Or.inl ⟨by rfl, ?_⟩) (by assumption) ?_
      rotate_left 1
      · intro w hSw
        try dsimp only at hSw
        go_simp
        try with_reducible rfl
      try simp only [Act.put, List.getElem_toArray, List.getElem_cons_zero, List.getElem_cons_succ, List.setIfInBounds_toArray, List.set_cons_zero, List.set_cons_succ]
      refine wpAnyH_take (i := 86) (v := ?_) rfl (by as_aux_lemma => kernel_rfl) (by as_aux_lemma => kernel_rfl) (by as_aux_lemma => kernel_rfl) (fun _ _ _ h => h) (Or.inl ⟨by rfl, ?_⟩) (by assumption) ?_
      rotate_left 1
      · intro w hSw
        try dsimp only at hSw
        go_simp
        try with_reducible rfl
      try simp only [Act.put, List.getElem_toArray, List.getElem_cons_zero, List.getElem_cons_succ, List.setIfInBounds_toArray, List.set_cons_zero, List.set_cons_succ]
      refine wpAnyH_take (i := 87) (v := undef) rfl (by as_aux_lemma => kernel_rfl) (by as_aux_lemma => kernel_rfl) (by as_aux_lemma => kernel_rfl) (fun _ _ _ h => h) (Or.inr ⟨by rfl, rfl⟩) (by assumption) ?_
      try simp only [Act.put, List.getElem_toArray, List.getElem_cons_zero, List.getElem_cons_succ, List.setIfInBounds_toArray, List.set_cons_zero, List.set_cons_succ]
      refine wpAnyH_take (i := 88) (v := undef) rfl (by as_aux_lemma => kernel_rfl) (by as_aux_lemma => kernel_rfl) (by as_aux_lemma => kernel_rfl) (fun _ _ _ h => h) (Or.inr ⟨by rfl, rfl⟩) (by assumption) ?_
      try simp only [Act.put, List.getElem_toArray, List.getElem_cons_zero, List.getElem_cons_succ, List.setIfInBounds_toArray, List.set_cons_zero, List.set_cons_succ]
      refine wpAnyH_take (i := 89) (v := ?_) rfl (by as_aux_lemma => kernel_rfl) (by as_aux_lemma => kernel_rfl) (by as_aux_lemma => kernel_rfl) (fun _ _ _ h => h) (Or.inl ⟨by rfl, ?_⟩) (by assumption) ?_
      rotate_left 1
      · intro w hSw
        try dsimp only at hSw
        go_simp
        try with_reducible rfl
      try simp only [Act.put, List.getElem_toArray, List.getElem_cons_zero, List.getElem_cons_succ, List.setIfInBounds_toArray, List.set_cons_zero, List.set_cons_succ]
      refine wpAnyH_take (i := 90) (v := ?_) rfl (by as_aux_lemma => kernel_rfl) (by as_aux_lemma => kernel_rfl) (by as_aux_lemma => kernel_rfl) (fun _ _ _ h => h) (Or.inl ⟨by rfl, ?_⟩) (by assumption) ?_
      rotate_left 1
      · intro w hSw
        try dsimp only at hSw
        go_simp
        try with_reducible rfl
      try simp only [Act.put, List.getElem_toArray, List.getElem_cons_zero, List.getElem_cons_succ, List.setIfInBounds_toArray, List.set_cons_zero, List.set_cons_succ]
      refine wpAnyH_take (i := 91) (v := ?_) rfl (by as_aux_lemma => kernel_rfl) (by as_aux_lemma => kernel_rfl) (by as_aux_lemma => kernel_rfl) (fun _ _ _ h => h) (Or.inl ⟨by rfl, ?_⟩) (by assumption) ?_
      rotate_left 1
      · intro w hSw
        try dsimp only at hSw
        go_simp
        try with_reducible rfl
      try simp only [Act.put, List.getElem_toArray, List.getElem_cons_zero, List.getElem_cons_succ, List.setIfInBounds_toArray, List.set_cons_zero, List.set_cons_succ]
      refine wpAnyH_take (i := 92) (v := ?_) rfl (by as_aux_lemma => kernel_rfl) (by as_aux_lemma => kernel_rfl) (by as_aux_lemma => kernel_rfl) (fun _ _ _ h => h) (Or.inl ⟨by rfl, ?_⟩) (by assumption) ?_
      rotate_left 1
      · intro w hSw
        try dsimp only at hSw
        go_simp
        try with_reducible rfl
      try simp only [Act.put, List.getElem_toArray, List.getElem_cons_zero, List.getElem_cons_succ, List.setIfInBounds_toArray, List.set_cons_zero, List.set_cons_succ]
      refine wpAnyH_take (i := 93) (v := ?_) rfl (by as_aux_lemma => kernel_rfl) (by as_aux_lemma => kernel_rfl) (by as_aux_lemma => kernel_rfl) (fun _ _ _ h => h) (Or.inl ⟨by rfl, ?_⟩) (by assumption) ?_
      rotate_left 1
      · intro w hSw
        try dsimp only at hSw
        go_simp
        try with_reducible rfl
      try simp only [Act.put, List.getElem_toArray, List.getElem_cons_zero, List.getElem_cons_succ, List.setIfInBounds_toArray, List.set_cons_zero, List.set_cons_succ]
      refine wpAnyH_ready (rs := [94]) (by as_aux_lemma => kernel_rfl) (by simp) ?_
      refine AllReadyH.cons rfl (fun K hK => ?_) AllReadyH.nil
      go_simp
      refine (impl_blockC S (some ⟨gP, 0, none⟩) M cP (fun _ => cellL 0 2 2) (some ⟨gV, 0, none⟩) 6 cV vs _ _ (ownS_rowP oP fun _ _ => whole_ok (by omega) (by omega)) (oV.rowI HW.out) (Nat.le_refl _)).mono ?_
      rintro e x27 ⟨rfl, hx27⟩
      rw [EP.out]
      replace bz := bz.trans (hx27.mono (by have := bz.size; omega))
      replace kB := kB.below hx27 (by have := kB.1; omega)
      replace kD := kD.below hx27 (by have := kD.1; omega)
      replace kC := kC.below hx27 (by have := kC.1; omega)
      replace kE := kE.below hx27 (by have := kE.1; omega)
      replace kP := kP.below hx27 (by have := kP.1; omega)
      replace oB := oB.keep hx27
      replace oV := oV.keep hx27
      replace oD := oD.keep hx27
      replace oW := oW.keep hx27
      replace oP := oP.keep hx27
      clear hx27
      go_wp2_with fail
      refine hK.out _ _ ?_ (fun hHeld => ?_)
      · first | trivial | ((try dsimp only); (exact ⟨kB.2 0 _ rfl, kB.2 1 _ rfl, kD.2 0 _ rfl, kD.2 1 _ rfl, kC.2 0 _ rfl, kC.2 1 _ rfl, kC.2 2 _ rfl, kE.2 0 _ rfl, kE.2 1 _ rfl, kE.2 2 _ rfl, kP.2 0 _ rfl, kP.2 1 _ rfl, (by rw [HX.out]; exact oV.cellAt (show (f 0 1).toNat < vs.length by rw [HV6.out]; omega)), (by rw [HY.out]; exact oV.cellAt (show (f 0 2).toNat < vs.length by rw [HV6.out]; omega))⟩))
      clear hK K
      try simp only [Act.put, List.getElem_toArray, List.getElem_cons_zero, List.getElem_cons_succ, List.setIfInBounds_toArray, List.set_cons_zero, List.set_cons_succ]
      refine wpAnyH_take (i := 95) (v := ?_) rfl (by as_aux_lemma => kernel_rfl) (by as_aux_lemma => kernel_rfl) (by as_aux_lemma => kernel_rfl) (fun _ _ _ h => h) (Or.inl ⟨by rfl, ?_⟩) (by assumption) ?_
      rotate_left 1
      · intro w hSw
        try dsimp only at hSw
        go_simp
        try with_reducible rfl
      try simp only [Act.put, List.getElem_toArray, List.getElem_cons_zero, List.getElem_cons_succ, List.setIfInBounds_toArray, List.set_cons_zero, List.set_cons_succ]
      refine wpAnyH_take (i := 96) (v := ?_) rfl (by as_aux_lemma => kernel_rfl) (by as_aux_lemma => kernel_rfl) (by as_aux_lemma => kernel_rfl) (fun _ _ _ h => h) (Or.inl ⟨by rfl, ?_⟩) (by assumption) ?_
      rotate_left 1
      · intro w hSw
        try dsimp only at hSw
        go_simp
        try with_reducible rfl
      try simp only [Act.put, List.getElem_toArray, List.getElem_cons_zero, List.getElem_cons_succ, List.setIfInBounds_toArray, List.set_cons_zero, List.set_cons_succ]
      refine wpAnyH_take (i := 97) (v := ?_) rfl (by as_aux_lemma => kernel_rfl) (by as_aux_lemma => kernel_rfl) (by as_aux_lemma => kernel_rfl) (fun _ _ _ h => h) (Or.inl ⟨by rfl, ?_⟩) (by assumption) ?_
      rotate_left 1
      · intro w hSw
        try dsimp only at hSw
        go_simp
        try with_reducible rfl
      try simp only [Act.put, List.getElem_toArray, List.getElem_cons_zero, List.getElem_cons_succ, List.setIfInBounds_toArray, List.set_cons_zero, List.set_cons_succ]
      refine wpAnyH_take (i := 98) (v := ?_) rfl (by as_aux_lemma => kernel_rfl) (by as_aux_lemma => kernel_rfl) (by as_aux_lemma => kernel_rfl) (fun _ _ _ h => h) (Or.inl ⟨by rfl, ?_⟩) (by assumption) ?_
      rotate_left 1
      · intro w hSw
        try dsimp only at hSw
        go_simp
        try with_reducible rfl
      try simp only [Act.put, List.getElem_toArray, List.getElem_cons_zero, List.getElem_cons_succ, List.setIfInBounds_toArray, List.set_cons_zero, List.set_cons_succ]
      refine wpAnyH_ready (rs := [99]) (by as_aux_lemma => kernel_rfl) (by simp) ?_
      refine AllReadyH.cons rfl (fun K hK => ?_) AllReadyH.nil
      go_simp
      refine (impl_contrastOk (some ⟨gV, 0, none⟩) 6 cV vs _ _ (oV.rowI HW.out)).mono ?_
      rintro e w' ⟨rfl, rfl⟩
      rw [EK.out]
      go_wp2_with fail
      refine hK.out _ _ ?_ (fun hHeld => ?_)
      · first | trivial | ((try dsimp only); (exact ⟨kB.2 0 _ rfl, kB.2 1 _ rfl, kD.2 0 _ rfl, kD.2 1 _ rfl, kC.2 0 _ rfl, kC.2 1 _ rfl, kC.2 2 _ rfl, kE.2 0 _ rfl, kE.2 1 _ rfl, kE.2 2 _ rfl, kP.2 0 _ rfl, kP.2 1 _ rfl, (by rw [HX.out]; exact oV.cellAt (show (f 0 1).toNat < vs.length by rw [HV6.out]; omega)), (by rw [HY.out]; exact oV.cellAt (show (f 0 2).toNat < vs.length by rw [HV6.out]; omega))⟩))
      clear hK K
      try simp only [Act.put, List.getElem_toArray, List.getElem_cons_zero, List.getElem_cons_succ, List.setIfInBounds_toArray, List.set_cons_zero, List.set_cons_succ]
      refine wpAnyH_take (i := 100) (v := ?_) rfl (by as_aux_lemma => kernel_rfl) (by as_aux_lemma => kernel_rfl) (by as_aux_lemma => kernel_rfl) (fun _ _ _ h => h) (Or.inl ⟨by rfl, ?_⟩) (by assumption) ?_
      rotate_left 1
      · intro w hSw
        try dsimp only at hSw
        go_simp
        try with_reducible rfl
      try simp only [Act.put, List.getElem_toArray, List.getElem_cons_zero, List.getElem_cons_succ, List.setIfInBounds_toArray, List.set_cons_zero, List.set_cons_succ]
      refine wpAnyH_take (i := 101) (v := ?_) rfl (by as_aux_lemma => kernel_rfl) (by as_aux_lemma => kernel_rfl) (by as_aux_lemma => kernel_rfl) (fun _ _ _ h => h) (Or.inl ⟨by rfl, ?_⟩) (by assumption) ?_
      rotate_left 1
      · intro w hSw
        try dsimp only at hSw
        go_simp
        try with_reducible rfl
      try simp only [Act.put, List.getElem_toArray, List.getElem_cons_zero, List.getElem_cons_succ, List.setIfInBounds_toArray, List.set_cons_zero, List.set_cons_succ]
      refine wpAnyH_done (by as_aux_lemma => kernel_rfl) ?_ _
      go_wp2
      go_ret
      exact ⟨rfl, bz⟩
    · skip
      refine wp_region_held_drew (S := (fun w' => w'.cell? ⟨x1.heap.size, 0, none⟩ = some (.int .i64 S) ∧ w'.cell? ⟨x1.heap.size, 1, none⟩ = some (.slice (some ⟨gB, 0, none⟩) M cB) ∧ w'.cell? ⟨x4.heap.size, 0, none⟩ = some (.int .i64 S) ∧ w'.cell? ⟨x4.heap.size, 1, none⟩ = some (.slice (some ⟨gD, 0, none⟩) M cD) ∧ w'.cell? ⟨wr.heap.size, 0, none⟩ = some (.int .i64 (f 0 0)) ∧ w'.cell? ⟨wr.heap.size, 1, none⟩ = some (.int .i64 (f 0 1)) ∧ w'.cell? ⟨wr.heap.size, 2, none⟩ = some (.int .i64 (f 0 2)) ∧ w'.cell? ⟨(wr.heap.size + 1), 0, none⟩ = some (.int .i64 (f L 0)) ∧ w'.cell? ⟨(wr.heap.size + 1), 1, none⟩ = some (.int .i64 (f L 1)) ∧ w'.cell? ⟨(wr.heap.size + 1), 2, none⟩ = some (.int .i64 (f L 2)) ∧ w'.cell? ⟨x9.heap.size, 0, none⟩ = some (.int .i64 S) ∧ w'.cell? ⟨x9.heap.size, 1, none⟩ = some (.slice (some ⟨gP, 0, none⟩) M cP) ∧ w'.cell? ⟨gV, (f 0 1).toNat, none⟩ = some (.int .i64 X) ∧ w'.cell? ⟨gV, (f 0 2).toNat, none⟩ = some (.int .i64 Y))) (by as_aux_lemma => kernel_rfl) ?_ (fun hHeld => ?_)
      · first | trivial | ((try dsimp only); (exact ⟨kB.2 0 _ rfl, kB.2 1 _ rfl, kD.2 0 _ rfl, kD.2 1 _ rfl, kC.2 0 _ rfl, kC.2 1 _ rfl, kC.2 2 _ rfl, kE.2 0 _ rfl, kE.2 1 _ rfl, kE.2 2 _ rfl, kP.2 0 _ rfl, kP.2 1 _ rfl, (by rw [HX.out]; exact oV.cellAt (show (f 0 1).toNat < vs.length by rw [HV6.out]; omega)), (by rw [HY.out]; exact oV.cellAt (show (f 0 2).toNat < vs.length by rw [HV6.out]; omega))⟩))
      refine wpAnyH_take (i := 0) (v := ?_) rfl (by as_aux_lemma => kernel_rfl) (by as_aux_lemma => kernel_rfl) (by as_aux_lemma => kernel_rfl) (fun _ _ _ h => h) (Or.inl ⟨by rfl, ?_⟩) (by assumption) ?_
      rotate_left 1
      · intro w hSw
        try dsimp only at hSw
        go_simp
        try with_reducible rfl
      try simp only [Act.put, List.getElem_toArray, List.getElem_cons_zero, List.getElem_cons_succ, List.setIfInBounds_toArray, List.set_cons_zero, List.set_cons_succ]
      refine wpAnyH_take (i := 1) (v := ?_) rfl (by as_aux_lemma => kernel_rfl) (by as_aux_lemma => kernel_rfl) (by as_aux_lemma => kernel_rfl) (fun _ _ _ h => h) (Or.inl ⟨by rfl, ?_⟩) (by assumption) ?_
      rotate_left 1
      · intro w hSw
        try dsimp only at hSw
        go_simp
        try with_reducible rfl
      try simp only [Act.put, List.getElem_toArray, List.getElem_cons_zero, List.getElem_cons_succ, List.setIfInBounds_toArray, List.set_cons_zero, List.set_cons_succ]
      refine wpAnyH_take (i := 2) (v := ?_) rfl (by as_aux_lemma => kernel_rfl) (by as_aux_lemma => kernel_rfl) (by as_aux_lemma => kernel_rfl) (fun _ _ _ h => h) (Or.inl ⟨by rfl, ?_⟩) (by assumption) ?_
      rotate_left 1
      · intro w hSw
        try dsimp only at hSw
        go_simp
        try with_reducible rfl
      try simp only [Act.put, List.getElem_toArray, List.getElem_cons_zero, List.getElem_cons_succ, List.setIfInBounds_toArray, List.set_cons_zero, List.set_cons_succ]
      refine wpAnyH_take (i := 3) (v := ?_) rfl (by as_aux_lemma => kernel_rfl) (by as_aux_lemma => kernel_rfl) (by as_aux_lemma => kernel_rfl) (fun _ _ _ h => h) (Or.inl ⟨by rfl, ?_⟩) (by assumption) ?_
      rotate_left 1
      · intro w hSw
        try dsimp only at hSw
        go_simp
        try with_reducible rfl
      try simp only [Act.put, List.getElem_toArray, List.getElem_cons_zero, List.getElem_cons_succ, List.setIfInBounds_toArray, List.set_cons_zero, List.set_cons_succ]
      refine wpAnyH_take (i := 4) (v := ?_) rfl (by as_aux_lemma => kernel_rfl) (by as_aux_lemma => kernel_rfl) (by as_aux_lemma => kernel_rfl) (fun _ _ _ h => h) (Or.inl ⟨by rfl, ?_⟩) (by assumption) ?_
      rotate_left 1
      · intro w hSw
        try dsimp only at hSw
        go_simp
        try with_reducible rfl
      try simp only [Act.put, List.getElem_toArray, List.getElem_cons_zero, List.getElem_cons_succ, List.setIfInBounds_toArray, List.set_cons_zero, List.set_cons_succ]
      refine wpAnyH_take (i := 5) (v := ?_) rfl (by as_aux_lemma => kernel_rfl) (by as_aux_lemma => kernel_rfl) (by as_aux_lemma => kernel_rfl) (fun _ _ _ h => h) (Or.inl ⟨by rfl, ?_⟩) (by assumption) ?_
      rotate_left 1
      · intro w hSw
        try dsimp only at hSw
        go_simp
        try with_reducible rfl
      try simp only [Act.put, List.getElem_toArray, List.getElem_cons_zero, List.getElem_cons_succ, List.setIfInBounds_toArray, List.set_cons_zero, List.set_cons_succ]
      refine wpAnyH_take (i := 6) (v := ?_) rfl (by as_aux_lemma => kernel_rfl) (by as_aux_lemma => kernel_rfl) (by as_aux_lemma => kernel_rfl) (fun _ _ _ h => h) (Or.inl ⟨by rfl, ?_⟩) (by assumption) ?_
      rotate_left 1
      · intro w hSw
        try dsimp only at hSw
        go_simp
        try with_reducible rfl
      try simp only [Act.put, List.getElem_toArray, List.getElem_cons_zero, List.getElem_cons_succ, List.setIfInBounds_toArray, List.set_cons_zero, List.set_cons_succ]
      refine wpAnyH_take (i := 7) (v := ?_) rfl (by as_aux_lemma => kernel_rfl) (by as_aux_lemma => kernel_rfl) (by as_aux_lemma => kernel_rfl) (fun _ _ _ h => h) (Or.inl ⟨by rfl, ?_⟩) (by assumption) ?_
      rotate_left 1
      · intro w hSw
        try dsimp only at hSw
        go_simp
        try with_reducible rfl
      try simp only [Act.put, List.getElem_toArray, List.getElem_cons_zero, List.getElem_cons_succ, List.setIfInBounds_toArray, List.set_cons_zero, List.set_cons_succ]
      refine wpAnyH_take (i := 8) (v := ?_) rfl (by as_aux_lemma => kernel_rfl) (by as_aux_lemma => kernel_rfl) (by as_aux_lemma => kernel_rfl) (fun _ _ _ h => h) (Or.inl ⟨by rfl, ?_⟩) (by assumption) ?_
      rotate_left 1
      · intro w hSw
        try dsimp only at hSw
        go_simp
        try with_reducible rfl
      try simp only [Act.put, List.getElem_toArray, List.getElem_cons_zero, List.getElem_cons_succ, List.setIfInBounds_toArray, List.set_cons_zero, List.set_cons_succ]
      refine wpAnyH_take (i := 10) (v := ?_) rfl (by as_aux_lemma => kernel_rfl) (by as_aux_lemma => kernel_rfl) (by as_aux_lemma => kernel_rfl) (fun _ _ _ h => h) (Or.inl ⟨by rfl, ?_⟩) (by assumption) ?_
      rotate_left 1
      · intro w hSw
        try dsimp only at hSw
        go_simp
        try with_reducible rfl
      try simp only [Act.put, List.getElem_toArray, List.getElem_cons_zero, List.getElem_cons_succ, List.setIfInBounds_toArray, List.set_cons_zero, List.set_cons_succ]
      refine wpAnyH_ready (rs := [9]) (by as_aux_lemma => kernel_rfl) (by simp) ?_
      refine AllReadyH.cons rfl (fun K hK => ?_) AllReadyH.nil
      go_simp
      refine (impl_blockC S (some ⟨gD, 0, none⟩) M cD d (some ⟨gV, 0, none⟩) 6 cV vs _ _ (ownS_rowP oD HD.out) (oV.rowI HW.out) (Nat.le_refl _)).mono ?_
      rintro e x20 ⟨rfl, hx20⟩
      rw [EN.out]
      replace bz := bz.trans (hx20.mono (by have := bz.size; omega))
      replace kB := kB.below hx20 (by have := kB.1; omega)
      replace kD := kD.below hx20 (by have := kD.1; omega)
      replace kC := kC.below hx20 (by have := kC.1; omega)
      replace kE := kE.below hx20 (by have := kE.1; omega)
      replace kP := kP.below hx20 (by have := kP.1; omega)
      replace oB := oB.keep hx20
      replace oV := oV.keep hx20
      replace oD := oD.keep hx20
      replace oW := oW.keep hx20
      replace oP := oP.keep hx20
      clear hx20
      go_wp2_with fail
      refine hK.out _ _ ?_ (fun hHeld => ?_)
      · first | trivial | ((try dsimp only); (exact ⟨kB.2 0 _ rfl, kB.2 1 _ rfl, kD.2 0 _ rfl, kD.2 1 _ rfl, kC.2 0 _ rfl, kC.2 1 _ rfl, kC.2 2 _ rfl, kE.2 0 _ rfl, kE.2 1 _ rfl, kE.2 2 _ rfl, kP.2 0 _ rfl, kP.2 1 _ rfl, (by rw [HX.out]; exact oV.cellAt (show (f 0 1).toNat < vs.length by rw [HV6.out]; omega)), (by rw [HY.out]; exact oV.cellAt (show (f 0 2).toNat < vs.length by rw [HV6.out]; omega))⟩))
      clear hK K
      try simp only [Act.put, List.getElem_toArray, List.getElem_cons_zero, List.getElem_cons_succ, List.setIfInBounds_toArray, List.set_cons_zero, List.set_cons_succ]
      refine wpAnyH_take (i := 11) (v := ?_) rfl (by as_aux_lemma => kernel_rfl) (by as_aux_lemma => kernel_rfl) (by as_aux_lemma => kernel_rfl) (fun _ _ _ h => h) (Or.inl ⟨by rfl, ?_⟩) (by assumption) ?_
      rotate_left 1
      · intro w hSw
        try dsimp only at hSw
        go_simp
        try with_reducible rfl
      try simp only [Act.put, List.getElem_toArray, List.getElem_cons_zero, List.getElem_cons_succ, List.setIfInBounds_toArray, List.set_cons_zero, List.set_cons_succ]
      refine wpAnyH_take (i := 12) (v := ?_) rfl (by as_aux_lemma => kernel_rfl) (by as_aux_lemma => kernel_rfl) (by as_aux_lemma => kernel_rfl) (fun _ _ _ h => h) (Or.inl ⟨by rfl, ?_⟩) (by assumption) ?_
      rotate_left 1
      · intro w hSw
        try dsimp only at hSw
        go_simp
        try with_reducible rfl
      try simp only [Act.put, List.getElem_toArray, List.getElem_cons_zero, List.getElem_cons_succ, List.setIfInBounds_toArray, List.set_cons_zero, List.set_cons_succ]
      refine wpAnyH_take (i := 13) (v := ?_) rfl (by as_aux_lemma => kernel_rfl) (by as_aux_lemma => kernel_rfl) (by as_aux_lemma => kernel_rfl) (fun _ _ _ h => h) (Or.inl ⟨by rfl, ?_⟩) (by assumption) ?_
      rotate_left 1
      · intro w hSw
        try dsimp only at hSw
        go_simp
        try with_reducible rfl
      try simp only [Act.put, List.getElem_toArray, List.getElem_cons_zero, List.getElem_cons_succ, List.setIfInBounds_toArray, List.set_cons_zero, List.set_cons_succ]
      refine wpAnyH_take (i := 14) (v := ?_) rfl (by as_aux_lemma => kernel_rfl) (by as_aux_lemma => kernel_rfl) (by as_aux_lemma => kernel_rfl) (fun _ _ _ h => h) (Or.inl ⟨by rfl, ?_⟩) (by assumption) ?_
      rotate_left 1
      · intro w hSw
        try dsimp only at hSw
        go_simp
        try with_reducible rfl
      try simp only [Act.put, List.getElem_toArray, List.getElem_cons_zero, List.getElem_cons_succ, List.setIfInBounds_toArray, List.set_cons_zero, List.set_cons_succ]
      refine wpAnyH_take (i := 15) (v := ?_) rfl (by as_aux_lemma => kernel_rfl) (by as_aux_lemma => kernel_rfl) (by as_aux_lemma => kernel_rfl) (fun _ _ _ h => h) (Or.inl ⟨by rfl, ?_⟩) (by assumption) ?_
      rotate_left 1
      · intro w hSw
        try dsimp only at hSw
        go_simp
        try with_reducible rfl
      try simp only [Act.put, List.getElem_toArray, List.getElem_cons_zero, List.getElem_cons_succ, List.setIfInBounds_toArray, List.set_cons_zero, List.set_cons_succ]
      refine wpAnyH_take (i := 17) (v := ?_) rfl (by as_aux_lemma => kernel_rfl) (by as_aux_lemma => kernel_rfl) (by as_aux_lemma => kernel_rfl) (fun _ _ _ h => h) (Or.inl ⟨by rfl, ?_⟩) (by assumption) ?_
      rotate_left 1
      · intro w hSw
        try dsimp only at hSw
        go_simp
        try with_reducible rfl
      try simp only [Act.put, List.getElem_toArray, List.getElem_cons_zero, List.getElem_cons_succ, List.setIfInBounds_toArray, List.set_cons_zero, List.set_cons_succ]
      refine wpAnyH_ready (rs := [16]) (by as_aux_lemma => kernel_rfl) (by simp) ?_
      refine AllReadyH.cons rfl (fun K hK => ?_) AllReadyH.nil
      go_simp
      refine (impl_leastC S (some ⟨gD, 0, none⟩) M cD d (some ⟨gV, 0, none⟩) 6 cV vs _ _ (ownS_rowP oD HD.out) (oV.rowI HW.out) (Nat.le_refl _)).mono ?_
      rintro e x21 ⟨rfl, hx21⟩
      rw [EM.out]
      replace bz := bz.trans (hx21.mono (by have := bz.size; omega))
      replace kB := kB.below hx21 (by have := kB.1; omega)
      replace kD := kD.below hx21 (by have := kD.1; omega)
      replace kC := kC.below hx21 (by have := kC.1; omega)
      replace kE := kE.below hx21 (by have := kE.1; omega)
      replace kP := kP.below hx21 (by have := kP.1; omega)
      replace oB := oB.keep hx21
      replace oV := oV.keep hx21
      replace oD := oD.keep hx21
      replace oW := oW.keep hx21
      replace oP := oP.keep hx21
      clear hx21
      go_wp2_with fail
      refine hK.out _ _ ?_ (fun hHeld => ?_)
      · first | trivial | ((try dsimp only); (exact ⟨kB.2 0 _ rfl, kB.2 1 _ rfl, kD.2 0 _ rfl, kD.2 1 _ rfl, kC.2 0 _ rfl, kC.2 1 _ rfl, kC.2 2 _ rfl, kE.2 0 _ rfl, kE.2 1 _ rfl, kE.2 2 _ rfl, kP.2 0 _ rfl, kP.2 1 _ rfl, (by rw [HX.out]; exact oV.cellAt (show (f 0 1).toNat < vs.length by rw [HV6.out]; omega)), (by rw [HY.out]; exact oV.cellAt (show (f 0 2).toNat < vs.length by rw [HV6.out]; omega))⟩))
      clear hK K
      try simp only [Act.put, List.getElem_toArray, List.getElem_cons_zero, List.getElem_cons_succ, List.setIfInBounds_toArray, List.set_cons_zero, List.set_cons_succ]
      refine wpAnyH_take (i := 18) (v := ?_) rfl (by as_aux_lemma => kernel_rfl) (by as_aux_lemma => kernel_rfl) (by as_aux_lemma => kernel_rfl) (fun _ _ _ h => h) (Or.inl ⟨by rfl, ?_⟩) (by assumption) ?_
      rotate_left 1
      · intro w hSw
        try dsimp only at hSw
        go_simp
        try with_reducible rfl
      try simp only [Act.put, List.getElem_toArray, List.getElem_cons_zero, List.getElem_cons_succ, List.setIfInBounds_toArray, List.set_cons_zero, List.set_cons_succ]
      refine wpAnyH_take (i := 19) (v := ?_) rfl (by as_aux_lemma => kernel_rfl) (by as_aux_lemma => kernel_rfl) (by as_aux_lemma => kernel_rfl) (fun _ _ _ h => h) (Or.inl ⟨by rfl, ?_⟩) (by assumption) ?_
      rotate_left 1
      · intro w hSw
        try dsimp only at hSw
        go_simp
        try with_reducible rfl
      try simp only [Act.put, List.getElem_toArray, List.getElem_cons_zero, List.getElem_cons_succ, List.setIfInBounds_toArray, List.set_cons_zero, List.set_cons_succ]
      refine wpAnyH_take (i := 20) (v := ?_) rfl (by as_aux_lemma => kernel_rfl) (by as_aux_lemma => kernel_rfl) (by as_aux_lemma => kernel_rfl) (fun _ _ _ h => h) (Or.inl ⟨by rfl, ?_⟩) (by assumption) ?_
      rotate_left 1
      · intro w hSw
        try dsimp only at hSw
        go_simp
        try with_reducible rfl
      try simp only [Act.put, List.getElem_toArray, List.getElem_cons_zero, List.getElem_cons_succ, List.setIfInBounds_toArray, List.set_cons_zero, List.set_cons_succ]
      refine wpAnyH_take (i := 21) (v := ?_) rfl (by as_aux_lemma => kernel_rfl) (by as_aux_lemma => kernel_rfl) (by as_aux_lemma => kernel_rfl) (fun _ _ _ h => h) (Or.inl ⟨by rfl, ?_⟩) (by assumption) ?_
      rotate_left 1
      · intro w hSw
        try dsimp only at hSw
        go_simp
        try with_reducible rfl
      try simp only [Act.put, List.getElem_toArray, List.getElem_cons_zero, List.getElem_cons_succ, List.setIfInBounds_toArray, List.set_cons_zero, List.set_cons_succ]
      refine wpAnyH_take (i := 22) (v := ?_) rfl (by as_aux_lemma => kernel_rfl) (by as_aux_lemma => kernel_rfl) (by as_aux_lemma => kernel_rfl) (fun _ _ _ h => h) (Or.inl ⟨by rfl, ?_⟩) (by assumption) ?_
      rotate_left 1
      · intro w hSw
        try dsimp only at hSw
        go_simp
        try with_reducible rfl
      try simp only [Act.put, List.getElem_toArray, List.getElem_cons_zero, List.getElem_cons_succ, List.setIfInBounds_toArray, List.set_cons_zero, List.set_cons_succ]
      refine wpAnyH_take (i := 24) (v := ?_) rfl (by as_aux_lemma => kernel_rfl) (by as_aux_lemma => kernel_rfl) (by as_aux_lemma => kernel_rfl) (fun _ _ _ h => h) (Or.inl ⟨by rfl, ?_⟩) (by assumption) ?_
      rotate_left 1
      · intro w hSw
        try dsimp only at hSw
        go_simp
        try with_reducible rfl
      try simp only [Act.put, List.getElem_toArray, List.getElem_cons_zero, List.getElem_cons_succ, List.setIfInBounds_toArray, List.set_cons_zero, List.set_cons_succ]
      refine wpAnyH_ready (rs := [23]) (by as_aux_lemma => kernel_rfl) (by simp) ?_
      refine AllReadyH.cons rfl (fun K hK => ?_) AllReadyH.nil
      go_simp
      refine (impl_blockC S (some ⟨gB, 0, none⟩) M cB f (some ⟨gW, 0, none⟩) 6 c3 (invV vs) _ _ (ownS_rowP oB HOK.out) (oW.rowI HWI.out) (Nat.le_refl _)).mono ?_
      rintro e x22 ⟨rfl, hx22⟩
      rw [EW.out]
      replace bz := bz.trans (hx22.mono (by have := bz.size; omega))
      replace kB := kB.below hx22 (by have := kB.1; omega)
      replace kD := kD.below hx22 (by have := kD.1; omega)
      replace kC := kC.below hx22 (by have := kC.1; omega)
      replace kE := kE.below hx22 (by have := kE.1; omega)
      replace kP := kP.below hx22 (by have := kP.1; omega)
      replace oB := oB.keep hx22
      replace oV := oV.keep hx22
      replace oD := oD.keep hx22
      replace oW := oW.keep hx22
      replace oP := oP.keep hx22
      clear hx22
      go_wp2_with fail
      refine hK.out _ _ ?_ (fun hHeld => ?_)
      · first | trivial | ((try dsimp only); (exact ⟨kB.2 0 _ rfl, kB.2 1 _ rfl, kD.2 0 _ rfl, kD.2 1 _ rfl, kC.2 0 _ rfl, kC.2 1 _ rfl, kC.2 2 _ rfl, kE.2 0 _ rfl, kE.2 1 _ rfl, kE.2 2 _ rfl, kP.2 0 _ rfl, kP.2 1 _ rfl, (by rw [HX.out]; exact oV.cellAt (show (f 0 1).toNat < vs.length by rw [HV6.out]; omega)), (by rw [HY.out]; exact oV.cellAt (show (f 0 2).toNat < vs.length by rw [HV6.out]; omega))⟩))
      clear hK K
      try simp only [Act.put, List.getElem_toArray, List.getElem_cons_zero, List.getElem_cons_succ, List.setIfInBounds_toArray, List.set_cons_zero, List.set_cons_succ]
      refine wpAnyH_take (i := 25) (v := ?_) rfl (by as_aux_lemma => kernel_rfl) (by as_aux_lemma => kernel_rfl) (by as_aux_lemma => kernel_rfl) (fun _ _ _ h => h) (Or.inl ⟨by rfl, ?_⟩) (by assumption) ?_
      rotate_left 1
      · intro w hSw
        try dsimp only at hSw
        go_simp
        try with_reducible rfl
      try simp only [Act.put, List.getElem_toArray, List.getElem_cons_zero, List.getElem_cons_succ, List.setIfInBounds_toArray, List.set_cons_zero, List.set_cons_succ]
      refine wpAnyH_take (i := 26) (v := ?_) rfl (by as_aux_lemma => kernel_rfl) (by as_aux_lemma => kernel_rfl) (by as_aux_lemma => kernel_rfl) (fun _ _ _ h => h) (Or.inl ⟨by rfl, ?_⟩) (by assumption) ?_
      rotate_left 1
      · intro w hSw
        try dsimp only at hSw
        go_simp
        try with_reducible rfl
      try simp only [Act.put, List.getElem_toArray, List.getElem_cons_zero, List.getElem_cons_succ, List.setIfInBounds_toArray, List.set_cons_zero, List.set_cons_succ]
      refine wpAnyH_take (i := 27) (v := ?_) rfl (by as_aux_lemma => kernel_rfl) (by as_aux_lemma => kernel_rfl) (by as_aux_lemma => kernel_rfl) (fun _ _ _ h => h) (Or.inl ⟨by rfl, ?_⟩) (by assumption) ?_
      rotate_left 1
      · intro w hSw
        try dsimp only at hSw
        go_simp
        try with_reducible rfl
      try simp only [Act.put, List.getElem_toArray, List.getElem_cons_zero, List.getElem_cons_succ, List.setIfInBounds_toArray, List.set_cons_zero, List.set_cons_succ]
      refine wpAnyH_take (i := 28) (v := ?_) rfl (by as_aux_lemma => kernel_rfl) (by as_aux_lemma => kernel_rfl) (by as_aux_lemma => kernel_rfl) (fun _ _ _ h => h) (Or.inl ⟨by rfl, ?_⟩) (by assumption) ?_
      rotate_left 1
      · intro w hSw
        try dsimp only at hSw
        go_simp
        try with_reducible rfl
      try simp only [Act.put, List.getElem_toArray, List.getElem_cons_zero, List.getElem_cons_succ, List.setIfInBounds_toArray, List.set_cons_zero, List.set_cons_succ]
      refine wpAnyH_take (i := 29) (v := ?_) rfl (by as_aux_lemma => kernel_rfl) (by as_aux_lemma => kernel_rfl) (by as_aux_lemma => kernel_rfl) (fun _ _ _ h => h) (Or.inl ⟨by rfl, ?_⟩) (by assumption) ?_
      rotate_left 1
      · intro w hSw
        try dsimp only at hSw
        go_simp
        try with_reducible rfl
      try simp only [Act.put, List.getElem_toArray, List.getElem_cons_zero, List.getElem_cons_succ, List.setIfInBounds_toArray, List.set_cons_zero, List.set_cons_succ]
      refine wpAnyH_take (i := 31) (v := ?_) rfl (by as_aux_lemma => kernel_rfl) (by as_aux_lemma => kernel_rfl) (by as_aux_lemma => kernel_rfl) (fun _ _ _ h => h) (Or.inl ⟨by rfl, ?_⟩) (by assumption) ?_
      rotate_left 1
      · intro w hSw
        try dsimp only at hSw
        go_simp
        try with_reducible rfl
      try simp only [Act.put, List.getElem_toArray, List.getElem_cons_zero, List.getElem_cons_succ, List.setIfInBounds_toArray, List.set_cons_zero, List.set_cons_succ]
      refine wpAnyH_take (i := 33) (v := ?_) rfl (by as_aux_lemma => kernel_rfl) (by as_aux_lemma => kernel_rfl) (by as_aux_lemma => kernel_rfl) (fun _ _ _ h => h) (Or.inl ⟨by rfl, ?_⟩) (by assumption) ?_
      rotate_left 1
      · intro w hSw
        try dsimp only at hSw
        go_simp
        try with_reducible rfl
      try simp only [Act.put, List.getElem_toArray, List.getElem_cons_zero, List.getElem_cons_succ, List.setIfInBounds_toArray, List.set_cons_zero, List.set_cons_succ]
      refine wpAnyH_ready (rs := [30]) (by as_aux_lemma => kernel_rfl) (by simp) ?_
      refine AllReadyH.cons rfl (fun K hK => ?_) AllReadyH.nil
      go_simp
      refine (turnCell_any (f 0) _ HF0.out).mono ?_
      rintro e x23 ⟨rfl, hx23⟩
      replace bz := bz.trans (hx23.mono (by have := bz.size; omega))
      replace kB := kB.below hx23 (by have := kB.1; omega)
      replace kD := kD.below hx23 (by have := kD.1; omega)
      replace kC := kC.below hx23 (by have := kC.1; omega)
      replace kE := kE.below hx23 (by have := kE.1; omega)
      replace kP := kP.below hx23 (by have := kP.1; omega)
      replace oB := oB.keep hx23
      replace oV := oV.keep hx23
      replace oD := oD.keep hx23
      replace oW := oW.keep hx23
      replace oP := oP.keep hx23
      clear hx23
      go_wp2_with fail
      refine hK.out _ _ ?_ (fun hHeld => ?_)
      · first | trivial | ((try dsimp only); (exact ⟨kB.2 0 _ rfl, kB.2 1 _ rfl, kD.2 0 _ rfl, kD.2 1 _ rfl, kC.2 0 _ rfl, kC.2 1 _ rfl, kC.2 2 _ rfl, kE.2 0 _ rfl, kE.2 1 _ rfl, kE.2 2 _ rfl, kP.2 0 _ rfl, kP.2 1 _ rfl, (by rw [HX.out]; exact oV.cellAt (show (f 0 1).toNat < vs.length by rw [HV6.out]; omega)), (by rw [HY.out]; exact oV.cellAt (show (f 0 2).toNat < vs.length by rw [HV6.out]; omega))⟩))
      clear hK K
      try simp only [Act.put, List.getElem_toArray, List.getElem_cons_zero, List.getElem_cons_succ, List.setIfInBounds_toArray, List.set_cons_zero, List.set_cons_succ]
      refine wpAnyH_ready (rs := [32]) (by as_aux_lemma => kernel_rfl) (by simp) ?_
      refine AllReadyH.cons rfl (fun K hK => ?_) AllReadyH.nil
      go_simp
      refine (turnCell_any (f L) _ HFL.out).mono ?_
      rintro e x24 ⟨rfl, hx24⟩
      replace bz := bz.trans (hx24.mono (by have := bz.size; omega))
      replace kB := kB.below hx24 (by have := kB.1; omega)
      replace kD := kD.below hx24 (by have := kD.1; omega)
      replace kC := kC.below hx24 (by have := kC.1; omega)
      replace kE := kE.below hx24 (by have := kE.1; omega)
      replace kP := kP.below hx24 (by have := kP.1; omega)
      replace oB := oB.keep hx24
      replace oV := oV.keep hx24
      replace oD := oD.keep hx24
      replace oW := oW.keep hx24
      replace oP := oP.keep hx24
      clear hx24
      go_wp2_with fail
      refine hK.out _ _ ?_ (fun hHeld => ?_)
      · first | trivial | ((try dsimp only); (exact ⟨kB.2 0 _ rfl, kB.2 1 _ rfl, kD.2 0 _ rfl, kD.2 1 _ rfl, kC.2 0 _ rfl, kC.2 1 _ rfl, kC.2 2 _ rfl, kE.2 0 _ rfl, kE.2 1 _ rfl, kE.2 2 _ rfl, kP.2 0 _ rfl, kP.2 1 _ rfl, (by rw [HX.out]; exact oV.cellAt (show (f 0 1).toNat < vs.length by rw [HV6.out]; omega)), (by rw [HY.out]; exact oV.cellAt (show (f 0 2).toNat < vs.length by rw [HV6.out]; omega))⟩))
      clear hK K
      try simp only [Act.put, List.getElem_toArray, List.getElem_cons_zero, List.getElem_cons_succ, List.setIfInBounds_toArray, List.set_cons_zero, List.set_cons_succ]
      refine wpAnyH_ready (rs := [34]) (by as_aux_lemma => kernel_rfl) (by simp) ?_
      refine AllReadyH.cons rfl (fun K hK => ?_) AllReadyH.nil
      go_simp
      refine (impl_edge (turnC (f 0)) (turnC (f L)) false (some ⟨gV, 0, none⟩) 6 cV vs _ _ (oV.rowI HW.out) (Nat.le_refl _)).mono ?_
      rintro e x25 ⟨rfl, hx25⟩
      rw [HE.out]
      replace bz := bz.trans (hx25.mono (by have := bz.size; omega))
      replace kB := kB.below hx25 (by have := kB.1; omega)
      replace kD := kD.below hx25 (by have := kD.1; omega)
      replace kC := kC.below hx25 (by have := kC.1; omega)
      replace kE := kE.below hx25 (by have := kE.1; omega)
      replace kP := kP.below hx25 (by have := kP.1; omega)
      replace oB := oB.keep hx25
      replace oV := oV.keep hx25
      replace oD := oD.keep hx25
      replace oW := oW.keep hx25
      replace oP := oP.keep hx25
      clear hx25
      go_wp2_with fail
      refine hK.out _ _ ?_ (fun hHeld => ?_)
      · first | trivial | ((try dsimp only); (exact ⟨kB.2 0 _ rfl, kB.2 1 _ rfl, kD.2 0 _ rfl, kD.2 1 _ rfl, kC.2 0 _ rfl, kC.2 1 _ rfl, kC.2 2 _ rfl, kE.2 0 _ rfl, kE.2 1 _ rfl, kE.2 2 _ rfl, kP.2 0 _ rfl, kP.2 1 _ rfl, (by rw [HX.out]; exact oV.cellAt (show (f 0 1).toNat < vs.length by rw [HV6.out]; omega)), (by rw [HY.out]; exact oV.cellAt (show (f 0 2).toNat < vs.length by rw [HV6.out]; omega))⟩))
      clear hK K
      try simp only [Act.put, List.getElem_toArray, List.getElem_cons_zero, List.getElem_cons_succ, List.setIfInBounds_toArray, List.set_cons_zero, List.set_cons_succ]
      refine wpAnyH_take (i := 35) (v := ?_) rfl (by as_aux_lemma => kernel_rfl) (by as_aux_lemma => kernel_rfl) (by as_aux_lemma => kernel_rfl) (fun _ _ _ h => h) (Or.inl ⟨by rfl, ?_⟩) (by assumption) ?_
      rotate_left 1
      · intro w hSw
        try dsimp only at hSw
        go_simp
        try with_reducible rfl
      try simp only [Act.put, List.getElem_toArray, List.getElem_cons_zero, List.getElem_cons_succ, List.setIfInBounds_toArray, List.set_cons_zero, List.set_cons_succ]
      refine wpAnyH_take (i := 36) (v := ?_) rfl (by as_aux_lemma => kernel_rfl) (by as_aux_lemma => kernel_rfl) (by as_aux_lemma => kernel_rfl) (fun _ _ _ h => h) (Or.inl ⟨by rfl, ?_⟩) (by assumption) ?_
      rotate_left 1
      · intro w hSw
        try dsimp only at hSw
        go_simp
        try with_reducible rfl
      try simp only [Act.put, List.getElem_toArray, List.getElem_cons_zero, List.getElem_cons_succ, List.setIfInBounds_toArray, List.set_cons_zero, List.set_cons_succ]
      refine wpAnyH_take (i := 37) (v := ?_) rfl (by as_aux_lemma => kernel_rfl) (by as_aux_lemma => kernel_rfl) (by as_aux_lemma => kernel_rfl) (fun _ _ _ h => h) (Or.inl ⟨by rfl, ?_⟩) (by assumption) ?_
      rotate_left 1
      · intro w hSw
        try dsimp only at hSw
        go_simp
        try with_reducible rfl
      try simp only [Act.put, List.getElem_toArray, List.getElem_cons_zero, List.getElem_cons_succ, List.setIfInBounds_toArray, List.set_cons_zero, List.set_cons_succ]
      refine wpAnyH_take (i := 38) (v := ?_) rfl (by as_aux_lemma => kernel_rfl) (by as_aux_lemma => kernel_rfl) (by as_aux_lemma => kernel_rfl) (fun _ _ _ h => h) (Or.inl ⟨by rfl, ?_⟩) (by assumption) ?_
      rotate_left 1
      · intro w hSw
        try dsimp only at hSw
        go_simp
        try with_reducible rfl
      try simp only [Act.put, List.getElem_toArray, List.getElem_cons_zero, List.getElem_cons_succ, List.setIfInBounds_toArray, List.set_cons_zero, List.set_cons_succ]
      refine wpAnyH_take (i := 39) (v := ?_) rfl (by as_aux_lemma => kernel_rfl) (by as_aux_lemma => kernel_rfl) (by as_aux_lemma => kernel_rfl) (fun _ _ _ h => h) (Or.inl ⟨by rfl, ?_⟩) (by assumption) ?_
      rotate_left 1
      · intro w hSw
        try dsimp only at hSw
        go_simp
        try with_reducible rfl
      try simp only [Act.put, List.getElem_toArray, List.getElem_cons_zero, List.getElem_cons_succ, List.setIfInBounds_toArray, List.set_cons_zero, List.set_cons_succ]
      refine wpAnyH_take (i := 40) (v := ?_) rfl (by as_aux_lemma => kernel_rfl) (by as_aux_lemma => kernel_rfl) (by as_aux_lemma => kernel_rfl) (fun _ _ _ h => h) (Or.inl ⟨by rfl, ?_⟩) (by assumption) ?_
      rotate_left 1
      · intro w hSw
        try dsimp only at hSw
        go_simp
        try with_reducible rfl
      try simp only [Act.put, List.getElem_toArray, List.getElem_cons_zero, List.getElem_cons_succ, List.setIfInBounds_toArray, List.set_cons_zero, List.set_cons_succ]
      refine wpAnyH_take (i := 41) (v := ?_) rfl (by as_aux_lemma => kernel_rfl) (by as_aux_lemma => kernel_rfl) (by as_aux_lemma => kernel_rfl) (fun _ _ _ h => h) (Or.inl ⟨by rfl, ?_⟩) (by assumption) ?_
      rotate_left 1
      · intro w hSw
        try dsimp only at hSw
        go_simp
        try with_reducible rfl
      try simp only [Act.put, List.getElem_toArray, List.getElem_cons_zero, List.getElem_cons_succ, List.setIfInBounds_toArray, List.set_cons_zero, List.set_cons_succ]
      refine wpAnyH_take (i := 42) (v := ?_) rfl (by as_aux_lemma => kernel_rfl) (by as_aux_lemma => kernel_rfl) (by as_aux_lemma => kernel_rfl) (fun _ _ _ h => h) (Or.inl ⟨by rfl, ?_⟩) (by assumption) ?_
      rotate_left 1
      · intro w hSw
        try dsimp only at hSw
        go_simp
        try with_reducible rfl
      try simp only [Act.put, List.getElem_toArray, List.getElem_cons_zero, List.getElem_cons_succ, List.setIfInBounds_toArray, List.set_cons_zero, List.set_cons_succ]
      refine wpAnyH_take (i := 43) (v := ?_) rfl (by as_aux_lemma => kernel_rfl) (by as_aux_lemma => kernel_rfl) (by as_aux_lemma => kernel_rfl) (fun _ _ _ h => h) (Or.inl ⟨by rfl, ?_⟩) (by assumption) ?_
      rotate_left 1
      · intro w hSw
        try dsimp only at hSw
        go_simp
        try with_reducible rfl
      try simp only [Act.put, List.getElem_toArray, List.getElem_cons_zero, List.getElem_cons_succ, List.setIfInBounds_toArray, List.set_cons_zero, List.set_cons_succ]
      refine wpAnyH_take (i := 44) (v := ?_) rfl (by as_aux_lemma => kernel_rfl) (by as_aux_lemma => kernel_rfl) (by as_aux_lemma => kernel_rfl) (fun _ _ _ h => h) (Or.inl ⟨by rfl, ?_⟩) (by assumption) ?_
      rotate_left 1
      · intro w hSw
        try dsimp only at hSw
        go_simp
        try with_reducible rfl
      try simp only [Act.put, List.getElem_toArray, List.getElem_cons_zero, List.getElem_cons_succ, List.setIfInBounds_toArray, List.set_cons_zero, List.set_cons_succ]
      refine wpAnyH_take (i := 45) (v := ?_) rfl (by as_aux_lemma => kernel_rfl) (by as_aux_lemma => kernel_rfl) (by as_aux_lemma => kernel_rfl) (fun _ _ _ h => h) (Or.inl ⟨by rfl, ?_⟩) (by assumption) ?_
      rotate_left 1
      · intro w hSw
        try dsimp only at hSw
        go_simp
        try with_reducible rfl
      try simp only [Act.put, List.getElem_toArray, List.getElem_cons_zero, List.getElem_cons_succ, List.setIfInBounds_toArray, List.set_cons_zero, List.set_cons_succ]
      refine wpAnyH_take (i := 46) (v := ?_) rfl (by as_aux_lemma => kernel_rfl) (by as_aux_lemma => kernel_rfl) (by as_aux_lemma => kernel_rfl) (fun _ _ _ h => h) (Or.inl ⟨by rfl, ?_⟩) (by assumption) ?_
      rotate_left 1
      · intro w hSw
        try dsimp only at hSw
        go_simp
        try with_reducible rfl
      try simp only [Act.put, List.getElem_toArray, List.getElem_cons_zero, List.getElem_cons_succ, List.setIfInBounds_toArray, List.set_cons_zero, List.set_cons_succ]
      refine wpAnyH_take (i := 47) (v := ?_) rfl (by as_aux_lemma => kernel_rfl) (by as_aux_lemma => kernel_rfl) (by as_aux_lemma => kernel_rfl) (fun _ _ _ h => h) (Or.inl ⟨by rfl, ?_⟩) (by assumption) ?_
      rotate_left 1
      · intro w hSw
        try dsimp only at hSw
        go_simp
        try with_reducible rfl
      try simp only [Act.put, List.getElem_toArray, List.getElem_cons_zero, List.getElem_cons_succ, List.setIfInBounds_toArray, List.set_cons_zero, List.set_cons_succ]
      refine wpAnyH_take (i := 49) (v := ?_) rfl (by as_aux_lemma => kernel_rfl) (by as_aux_lemma => kernel_rfl) (by as_aux_lemma => kernel_rfl) (fun _ _ _ h => h) (Or.inl ⟨by rfl, ?_⟩) (by assumption) ?_
      rotate_left 1
      · intro w hSw
        try dsimp only at hSw
        go_simp
        try with_reducible rfl
      try simp only [Act.put, List.getElem_toArray, List.getElem_cons_zero, List.getElem_cons_succ, List.setIfInBounds_toArray, List.set_cons_zero, List.set_cons_succ]
      refine wpAnyH_take (i := 50) (v := ?_) rfl (by as_aux_lemma => kernel_rfl) (by as_aux_lemma => kernel_rfl) (by as_aux_lemma => kernel_rfl) (fun _ _ _ h => h) (Or.inl ⟨by rfl, ?_⟩) (by assumption) ?_
      rotate_left 1
      · intro w hSw
        try dsimp only at hSw
        go_simp
        try with_reducible rfl
      try simp only [Act.put, List.getElem_toArray, List.getElem_cons_zero, List.getElem_cons_succ, List.setIfInBounds_toArray, List.set_cons_zero, List.set_cons_succ]
      refine wpAnyH_take (i := 51) (v := ?_) rfl (by as_aux_lemma => kernel_rfl) (by as_aux_lemma => kernel_rfl) (by as_aux_lemma => kernel_rfl) (fun _ _ _ h => h) (Or.inl ⟨by rfl, ?_⟩) (by assumption) ?_
      rotate_left 1
      · intro w hSw
        try dsimp only at hSw
        go_simp
        try with_reducible rfl
      try simp only [Act.put, List.getElem_toArray, List.getElem_cons_zero, List.getElem_cons_succ, List.setIfInBounds_toArray, List.set_cons_zero, List.set_cons_succ]
      refine wpAnyH_take (i := 52) (v := ?_) rfl (by as_aux_lemma => kernel_rfl) (by as_aux_lemma => kernel_rfl) (by as_aux_lemma => kernel_rfl) (fun _ _ _ h => h) (Or.inl ⟨by rfl, ?_⟩) (by assumption) ?_
      rotate_left 1
      · intro w hSw
        try dsimp only at hSw
        go_simp
        try with_reducible rfl
      try simp only [Act.put, List.getElem_toArray, List.getElem_cons_zero, List.getElem_cons_succ, List.setIfInBounds_toArray, List.set_cons_zero, List.set_cons_succ]
      refine wpAnyH_take (i := 53) (v := ?_) rfl (by as_aux_lemma => kernel_rfl) (by as_aux_lemma => kernel_rfl) (by as_aux_lemma => kernel_rfl) (fun _ _ _ h => h) (Or.inl ⟨by rfl, ?_⟩) (by assumption) ?_
      rotate_left 1
      · intro w hSw
        try dsimp only at hSw
        go_simp
        try with_reducible rfl
      try simp only [Act.put, List.getElem_toArray, List.getElem_cons_zero, List.getElem_cons_succ, List.setIfInBounds_toArray, List.set_cons_zero, List.set_cons_succ]
      refine wpAnyH_take (i := 54) (v := ?_) rfl (by as_aux_lemma => kernel_rfl) (by as_aux_lemma => kernel_rfl) (by as_aux_lemma => kernel_rfl) (fun _ _ _ h => h) (Or.inl ⟨by rfl, ?_⟩) (by assumption) ?_
      rotate_left 1
      · intro w hSw
        try dsimp only at hSw
        go_simp
        try with_reducible rfl
      try simp only [Act.put, List.getElem_toArray, List.getElem_cons_zero, List.getElem_cons_succ, List.setIfInBounds_toArray, List.set_cons_zero, List.set_cons_succ]
      refine wpAnyH_take (i := 55) (v := ?_) rfl (by as_aux_lemma => kernel_rfl) (by as_aux_lemma => kernel_rfl) (by as_aux_lemma => kernel_rfl) (fun _ _ _ h => h) (Or.inl ⟨by rfl, ?_⟩) (by assumption) ?_
      rotate_left 1
      · intro w hSw
        try dsimp only at hSw
        go_simp
        try with_reducible rfl
      try simp only [Act.put, List.getElem_toArray, List.getElem_cons_zero, List.getElem_cons_succ, List.setIfInBounds_toArray, List.set_cons_zero, List.set_cons_succ]
      refine wpAnyH_take (i := 56) (v := ?_) rfl (by as_aux_lemma => kernel_rfl) (by as_aux_lemma => kernel_rfl) (by as_aux_lemma => kernel_rfl) (fun _ _ _ h => h) (Or.inl ⟨by rfl, ?_⟩) (by assumption) ?_
      rotate_left 1
      · intro w hSw
        try dsimp only at hSw
        go_simp
        try with_reducible rfl
      try simp only [Act.put, List.getElem_toArray, List.getElem_cons_zero, List.getElem_cons_succ, List.setIfInBounds_toArray, List.set_cons_zero, List.set_cons_succ]
      refine wpAnyH_take (i := 57) (v := ?_) rfl (by as_aux_lemma => kernel_rfl) (by as_aux_lemma => kernel_rfl) (by as_aux_lemma => kernel_rfl) (fun _ _ _ h => h) (Or.inl ⟨by rfl, ?_⟩) (by assumption) ?_
      rotate_left 1
      · intro w hSw
        try dsimp only at hSw
        go_simp
        try with_reducible rfl
      try simp only [Act.put, List.getElem_toArray, List.getElem_cons_zero, List.getElem_cons_succ, List.setIfInBounds_toArray, List.set_cons_zero, List.set_cons_succ]
      refine wpAnyH_take (i := 58) (v := ?_) rfl (by as_aux_lemma => kernel_rfl) (by as_aux_lemma => kernel_rfl) (by as_aux_lemma => kernel_rfl) (fun _ _ _ h => h) (Or.inl ⟨by rfl, ?_⟩) (by assumption) ?_
      rotate_left 1
      · intro w hSw
        try dsimp only at hSw
        go_simp
        try with_reducible rfl
      try simp only [Act.put, List.getElem_toArray, List.getElem_cons_zero, List.getElem_cons_succ, List.setIfInBounds_toArray, List.set_cons_zero, List.set_cons_succ]
      refine wpAnyH_take (i := 59) (v := ?_) rfl (by as_aux_lemma => kernel_rfl) (by as_aux_lemma => kernel_rfl) (by as_aux_lemma => kernel_rfl) (fun _ _ _ h => h) (Or.inl ⟨by rfl, ?_⟩) (by assumption) ?_
      rotate_left 1
      · intro w hSw
        try dsimp only at hSw
        go_simp
        try with_reducible rfl
      try simp only [Act.put, List.getElem_toArray, List.getElem_cons_zero, List.getElem_cons_succ, List.setIfInBounds_toArray, List.set_cons_zero, List.set_cons_succ]
      refine wpAnyH_take (i := 60) (v := ?_) rfl (by as_aux_lemma => kernel_rfl) (by as_aux_lemma => kernel_rfl) (by as_aux_lemma => kernel_rfl) (fun _ _ _ h => h) (Or.inl ⟨by rfl, ?_⟩) (by assumption) ?_
      rotate_left 1
      · intro w hSw
        try dsimp only at hSw
        go_simp
        try with_reducible rfl
      try simp only [Act.put, List.getElem_toArray, List.getElem_cons_zero, List.getElem_cons_succ, List.setIfInBounds_toArray, List.set_cons_zero, List.set_cons_succ]
      refine wpAnyH_take (i := 61) (v := ?_) rfl (by as_aux_lemma => kernel_rfl) (by as_aux_lemma => kernel_rfl) (by as_aux_lemma => kernel_rfl) (fun _ _ _ h => h) (Or.inl ⟨by rfl, ?_⟩) (by assumption) ?_
      rotate_left 1
      · intro w hSw
        try dsimp only at hSw
        go_simp
        try with_reducible rfl
      try simp only [Act.put, List.getElem_toArray, List.getElem_cons_zero, List.getElem_cons_succ, List.setIfInBounds_toArray, List.set_cons_zero, List.set_cons_succ]
      refine wpAnyH_take (i := 62) (v := ?_) rfl (by as_aux_lemma => kernel_rfl) (by as_aux_lemma => kernel_rfl) (by as_aux_lemma => kernel_rfl) (fun _ _ _ h => h) (Or.inl ⟨by rfl, ?_⟩) (by assumption) ?_
      rotate_left 1
      · intro w hSw
        try dsimp only at hSw
        go_simp
        try with_reducible rfl
      try simp only [Act.put, List.getElem_toArray, List.getElem_cons_zero, List.getElem_cons_succ, List.setIfInBounds_toArray, List.set_cons_zero, List.set_cons_succ]
      refine wpAnyH_take (i := 63) (v := ?_) rfl (by as_aux_lemma => kernel_rfl) (by as_aux_lemma => kernel_rfl) (by as_aux_lemma => kernel_rfl) (fun _ _ _ h => h) (Or.inl ⟨by rfl, ?_⟩) (by assumption) ?_
      rotate_left 1
      · intro w hSw
        try dsimp only at hSw
        go_simp
        try with_reducible rfl
      try simp only [Act.put, List.getElem_toArray, List.getElem_cons_zero, List.getElem_cons_succ, List.setIfInBounds_toArray, List.set_cons_zero, List.set_cons_succ]
      refine wpAnyH_take (i := 64) (v := ?_) rfl (by as_aux_lemma => kernel_rfl) (by as_aux_lemma => kernel_rfl) (by as_aux_lemma => kernel_rfl) (fun _ _ _ h => h) (Or.inl ⟨by rfl, ?_⟩) (by assumption) ?_
      rotate_left 1
      · intro w hSw
        try dsimp only at hSw
        go_simp
        try with_reducible rfl
      try simp only [Act.put, List.getElem_toArray, List.getElem_cons_zero, List.getElem_cons_succ, List.setIfInBounds_toArray, List.set_cons_zero, List.set_cons_succ]
      refine wpAnyH_take (i := 65) (v := ?_) rfl (by as_aux_lemma => kernel_rfl) (by as_aux_lemma => kernel_rfl) (by as_aux_lemma => kernel_rfl) (fun _ _ _ h => h) (Or.inl ⟨by rfl, ?_⟩) (by assumption) ?_
      rotate_left 1
      · intro w hSw
        try dsimp only at hSw
        go_simp
        try with_reducible rfl
      try simp only [Act.put, List.getElem_toArray, List.getElem_cons_zero, List.getElem_cons_succ, List.setIfInBounds_toArray, List.set_cons_zero, List.set_cons_succ]
      refine wpAnyH_take (i := 66) (v := ?_) rfl (by as_aux_lemma => kernel_rfl) (by as_aux_lemma => kernel_rfl) (by as_aux_lemma => kernel_rfl) (fun _ _ _ h => h) (Or.inl ⟨by rfl, ?_⟩) (by assumption) ?_
      rotate_left 1
      · intro w hSw
        try dsimp only at hSw
        go_simp
        try with_reducible rfl
      try simp only [Act.put, List.getElem_toArray, List.getElem_cons_zero, List.getElem_cons_succ, List.setIfInBounds_toArray, List.set_cons_zero, List.set_cons_succ]
      refine wpAnyH_take (i := 67) (v := ?_) rfl (by as_aux_lemma => kernel_rfl) (by as_aux_lemma => kernel_rfl) (by as_aux_lemma => kernel_rfl) (fun _ _ _ h => h) (Or.inl ⟨by rfl, ?_⟩) (by assumption) ?_
      rotate_left 1
      · intro w hSw
        try dsimp only at hSw
        go_simp
        try with_reducible rfl
      try simp only [Act.put, List.getElem_toArray, List.getElem_cons_zero, List.getElem_cons_succ, List.setIfInBounds_toArray, List.set_cons_zero, List.set_cons_succ]
      refine wpAnyH_take (i := 68) (v := ?_) rfl (by as_aux_lemma => kernel_rfl) (by as_aux_lemma => kernel_rfl) (by as_aux_lemma => kernel_rfl) (fun _ _ _ h => h) (Or.inl ⟨by rfl, ?_⟩) (by assumption) ?_
      rotate_left 1
      · intro w hSw
        try dsimp only at hSw
        go_simp
        try with_reducible rfl
      try simp only [Act.put, List.getElem_toArray, List.getElem_cons_zero, List.getElem_cons_succ, List.setIfInBounds_toArray, List.set_cons_zero, List.set_cons_succ]
      refine wpAnyH_take (i := 69) (v := ?_) rfl (by as_aux_lemma => kernel_rfl) (by as_aux_lemma => kernel_rfl) (by as_aux_lemma => kernel_rfl) (fun _ _ _ h => h) (Or.inl ⟨by rfl, ?_⟩) (by assumption) ?_
      rotate_left 1
      · intro w hSw
        try dsimp only at hSw
        go_simp
        try with_reducible rfl
      try simp only [Act.put, List.getElem_toArray, List.getElem_cons_zero, List.getElem_cons_succ, List.setIfInBounds_toArray, List.set_cons_zero, List.set_cons_succ]
      refine wpAnyH_take (i := 70) (v := ?_) rfl (by as_aux_lemma => kernel_rfl) (by as_aux_lemma => kernel_rfl) (by as_aux_lemma => kernel_rfl) (fun _ _ _ h => h) (Or.inl ⟨by rfl, ?_⟩) (by assumption) ?_
      rotate_left 1
      · intro w hSw
        try dsimp only at hSw
        go_simp
        try with_reducible rfl
      try simp only [Act.put, List.getElem_toArray, List.getElem_cons_zero, List.getElem_cons_succ, List.setIfInBounds_toArray, List.set_cons_zero, List.set_cons_succ]
      refine wpAnyH_take (i := 71) (v := ?_) rfl (by as_aux_lemma => kernel_rfl) (by as_aux_lemma => kernel_rfl) (by as_aux_lemma => kernel_rfl) (fun _ _ _ h => h) (Or.inl ⟨by rfl, ?_⟩) (by assumption) ?_
      rotate_left 1
      · intro w hSw
        try dsimp only at hSw
        go_simp
        try with_reducible rfl
      try simp only [Act.put, List.getElem_toArray, List.getElem_cons_zero, List.getElem_cons_succ, List.setIfInBounds_toArray, List.set_cons_zero, List.set_cons_succ]
      refine wpAnyH_ready (rs := [48]) (by as_aux_lemma => kernel_rfl) (by simp) ?_
      refine AllReadyH.cons rfl (fun K hK => ?_) AllReadyH.nil
      go_simp
      refine (impl_inner (f 0) (some ⟨gV, 0, none⟩) 6 cV vs _ _ (oV.rowI HW.out) (Nat.le_refl _)).mono ?_
      rintro e x26 ⟨rfl, hx26⟩
      rw [EI.out]
      replace bz := bz.trans (hx26.mono (by have := bz.size; omega))
      replace kB := kB.below hx26 (by have := kB.1; omega)
      replace kD := kD.below hx26 (by have := kD.1; omega)
      replace kC := kC.below hx26 (by have := kC.1; omega)
      replace kE := kE.below hx26 (by have := kE.1; omega)
      replace kP := kP.below hx26 (by have := kP.1; omega)
      replace oB := oB.keep hx26
      replace oV := oV.keep hx26
      replace oD := oD.keep hx26
      replace oW := oW.keep hx26
      replace oP := oP.keep hx26
      clear hx26
      go_wp2_with fail
      refine hK.out _ _ ?_ (fun hHeld => ?_)
      · first | trivial | ((try dsimp only); (exact ⟨kB.2 0 _ rfl, kB.2 1 _ rfl, kD.2 0 _ rfl, kD.2 1 _ rfl, kC.2 0 _ rfl, kC.2 1 _ rfl, kC.2 2 _ rfl, kE.2 0 _ rfl, kE.2 1 _ rfl, kE.2 2 _ rfl, kP.2 0 _ rfl, kP.2 1 _ rfl, (by rw [HX.out]; exact oV.cellAt (show (f 0 1).toNat < vs.length by rw [HV6.out]; omega)), (by rw [HY.out]; exact oV.cellAt (show (f 0 2).toNat < vs.length by rw [HV6.out]; omega))⟩))
      clear hK K
      try simp only [Act.put, List.getElem_toArray, List.getElem_cons_zero, List.getElem_cons_succ, List.setIfInBounds_toArray, List.set_cons_zero, List.set_cons_succ]
      refine wpAnyH_take (i := 72) (v := ?_) rfl (by as_aux_lemma => kernel_rfl) (by as_aux_lemma => kernel_rfl) (by as_aux_lemma => kernel_rfl) (fun _ _ _ h => h) (Or.inl ⟨by rfl, ?_⟩) (by assumption) ?_
      rotate_left 1
      · intro w hSw
        try dsimp only at hSw
        go_simp
        try with_reducible rfl
      try simp only [Act.put, List.getElem_toArray, List.getElem_cons_zero, List.getElem_cons_succ, List.setIfInBounds_toArray, List.set_cons_zero, List.set_cons_succ]
      refine wpAnyH_take (i := 73) (v := ?_) rfl (by as_aux_lemma => kernel_rfl) (by as_aux_lemma => kernel_rfl) (by as_aux_lemma => kernel_rfl) (fun _ _ _ h => h) (Or.inl ⟨by rfl, ?_⟩) (by assumption) ?_
      rotate_left 1
      · intro w hSw
        try dsimp only at hSw
        go_simp
        try with_reducible rfl
      try simp only [Act.put, List.getElem_toArray, List.getElem_cons_zero, List.getElem_cons_succ, List.setIfInBounds_toArray, List.set_cons_zero, List.set_cons_succ]
      refine wpAnyH_take (i := 74) (v := ?_) rfl (by as_aux_lemma => kernel_rfl) (by as_aux_lemma => kernel_rfl) (by as_aux_lemma => kernel_rfl) (fun _ _ _ h => h) (Or.inl ⟨by rfl, ?_⟩) (by assumption) ?_
      rotate_left 1
      · intro w hSw
        try dsimp only at hSw
        go_simp
        try with_reducible rfl
      try simp only [Act.put, List.getElem_toArray, List.getElem_cons_zero, List.getElem_cons_succ, List.setIfInBounds_toArray, List.set_cons_zero, List.set_cons_succ]
      refine wpAnyH_take (i := 75) (v := ?_) rfl (by as_aux_lemma => kernel_rfl) (by as_aux_lemma => kernel_rfl) (by as_aux_lemma => kernel_rfl) (fun _ _ _ h => h) (Or.inl ⟨by rfl, ?_⟩) (by assumption) ?_
      rotate_left 1
      · intro w hSw
        try dsimp only at hSw
        go_simp
        try with_reducible rfl
      try simp only [Act.put, List.getElem_toArray, List.getElem_cons_zero, List.getElem_cons_succ, List.setIfInBounds_toArray, List.set_cons_zero, List.set_cons_succ]
      refine wpAnyH_take (i := 76) (v := ?_) rfl (by as_aux_lemma => kernel_rfl) (by as_aux_lemma => kernel_rfl) (by as_aux_lemma => kernel_rfl) (fun _ _ _ h => h) (Or.inl ⟨by rfl, ?_⟩) (by assumption) ?_
      rotate_left 1
      · intro w hSw
        try dsimp only at hSw
        go_simp
        try with_reducible rfl
      try simp only [Act.put, List.getElem_toArray, List.getElem_cons_zero, List.getElem_cons_succ, List.setIfInBounds_toArray, List.set_cons_zero, List.set_cons_succ]
      refine wpAnyH_take (i := 77) (v := ?_) rfl (by as_aux_lemma => kernel_rfl) (by as_aux_lemma => kernel_rfl) (by as_aux_lemma => kernel_rfl) (fun _ _ _ h => h) (Or.inl ⟨by rfl, ?_⟩) (by assumption) ?_
      rotate_left 1
      · intro w hSw
        try dsimp only at hSw
        go_simp
        try with_reducible rfl
      try simp only [Act.put, List.getElem_toArray, List.getElem_cons_zero, List.getElem_cons_succ, List.setIfInBounds_toArray, List.set_cons_zero, List.set_cons_succ]
      refine wpAnyH_take (i := 78) (v := ?_) rfl (by as_aux_lemma => kernel_rfl) (by as_aux_lemma => kernel_rfl) (by as_aux_lemma => kernel_rfl) (fun _ _ _ h => h) (Or.inl ⟨by rfl, ?_⟩) (by assumption) ?_
      rotate_left 1
      · intro w hSw
        try dsimp only at hSw
        go_simp
        try with_reducible rfl
      try simp only [Act.put, List.getElem_toArray, List.getElem_cons_zero, List.getElem_cons_succ, List.setIfInBounds_toArray, List.set_cons_zero, List.set_cons_succ]
      refine wpAnyH_take (i := 79) (v := ?_) rfl (by as_aux_lemma => kernel_rfl) (by as_aux_lemma => kernel_rfl) (by as_aux_lemma => kernel_rfl) (fun _ _ _ h => h) (Or.inl ⟨by rfl, ?_⟩) (by assumption) ?_
      rotate_left 1
      · intro w hSw
        try dsimp only at hSw
        go_simp
        try with_reducible rfl
      try simp only [Act.put, List.getElem_toArray, List.getElem_cons_zero, List.getElem_cons_succ, List.setIfInBounds_toArray, List.set_cons_zero, List.set_cons_succ]
      refine wpAnyH_take (i := 80) (v := ?_) rfl (by as_aux_lemma => kernel_rfl) (by as_aux_lemma => kernel_rfl) (by as_aux_lemma => kernel_rfl) (fun _ _ _ h => h) (Or.inl ⟨by rfl, ?_⟩) (by assumption) ?_
      rotate_left 1
      · intro w hSw
        try dsimp only at hSw
        go_simp
        try with_reducible rfl
      try simp only [Act.put, List.getElem_toArray, List.getElem_cons_zero, List.getElem_cons_succ, List.setIfInBounds_toArray, List.set_cons_zero, List.set_cons_succ]
      refine wpAnyH_take (i := 81) (v := ?_) rfl (by as_aux_lemma => kernel_rfl) (by as_aux_lemma => kernel_rfl) (by as_aux_lemma => kernel_rfl) (fun _ _ _ h => h) (Or.inl ⟨by rfl, ?_⟩) (by assumption) ?_
      rotate_left 1
      · intro w hSw
        try dsimp only at hSw
        go_simp
        try with_reducible rfl
      try simp only [Act.put, List.getElem_toArray, List.getElem_cons_zero, List.getElem_cons_succ, List.setIfInBounds_toArray, List.set_cons_zero, List.set_cons_succ]
      refine wpAnyH_take (i := 82) (v := ?_) rfl (by as_aux_lemma => kernel_rfl) (by as_aux_lemma => kernel_rfl) (by as_aux_lemma => kernel_rfl) (fun _ _ _ h => h) (Or.inl ⟨by rfl, ?_⟩) (by assumption) ?_
      rotate_left 1
      · intro w hSw
        try dsimp only at hSw
        go_simp
        try with_reducible rfl
      try simp only [Act.put, List.getElem_toArray, List.getElem_cons_zero, List.getElem_cons_succ, List.setIfInBounds_toArray, List.set_cons_zero, List.set_cons_succ]
      refine wpAnyH_take (i := 83) (v := ?_) rfl (by as_aux_lemma => kernel_rfl) (by as_aux_lemma => kernel_rfl) (by as_aux_lemma => kernel_rfl) (fun _ _ _ h => h) (Or.inl ⟨by rfl, ?_⟩) (by assumption) ?_
      rotate_left 1
      · intro w hSw
        try dsimp only at hSw
        go_simp
        try with_reducible rfl
      try simp only [Act.put, List.getElem_toArray, List.getElem_cons_zero, List.getElem_cons_succ, List.setIfInBounds_toArray, List.set_cons_zero, List.set_cons_succ]
      refine wpAnyH_take (i := 84) (v := ?_) rfl (by as_aux_lemma => kernel_rfl) (by as_aux_lemma => kernel_rfl) (by as_aux_lemma => kernel_rfl) (fun _ _ _ h => h) (Or.inl ⟨by rfl, ?_⟩) (by assumption) ?_
      rotate_left 1
      · intro w hSw
        try dsimp only at hSw
        go_simp
        try with_reducible rfl
      try simp only [Act.put, List.getElem_toArray, List.getElem_cons_zero, List.getElem_cons_succ, List.setIfInBounds_toArray, List.set_cons_zero, List.set_cons_succ]
      refine wpAnyH_take (i := 85) (v := ?_) rfl (by as_aux_lemma => kernel_rfl) (by as_aux_lemma => kernel_rfl) (by as_aux_lemma => kernel_rfl) (fun _ _ _ h => h) (Or.inl ⟨by rfl, ?_⟩) (by assumption) ?_
      rotate_left 1
      · intro w hSw
        try dsimp only at hSw
        go_simp
        try with_reducible rfl
      try simp only [Act.put, List.getElem_toArray, List.getElem_cons_zero, List.getElem_cons_succ, List.setIfInBounds_toArray, List.set_cons_zero, List.set_cons_succ]
      refine wpAnyH_take (i := 86) (v := ?_) rfl (by as_aux_lemma => kernel_rfl) (by as_aux_lemma => kernel_rfl) (by as_aux_lemma => kernel_rfl) (fun _ _ _ h => h) (Or.inl ⟨by rfl, ?_⟩) (by assumption) ?_
      rotate_left 1
      · intro w hSw
        try dsimp only at hSw
        go_simp
        try with_reducible rfl
      try simp only [Act.put, List.getElem_toArray, List.getElem_cons_zero, List.getElem_cons_succ, List.setIfInBounds_toArray, List.set_cons_zero, List.set_cons_succ]
      refine wpAnyH_take (i := 87) (v := undef) rfl (by as_aux_lemma => kernel_rfl) (by as_aux_lemma => kernel_rfl) (by as_aux_lemma => kernel_rfl) (fun _ _ _ h => h) (Or.inr ⟨by rfl, rfl⟩) (by assumption) ?_
      try simp only [Act.put, List.getElem_toArray, List.getElem_cons_zero, List.getElem_cons_succ, List.setIfInBounds_toArray, List.set_cons_zero, List.set_cons_succ]
      refine wpAnyH_take (i := 88) (v := undef) rfl (by as_aux_lemma => kernel_rfl) (by as_aux_lemma => kernel_rfl) (by as_aux_lemma => kernel_rfl) (fun _ _ _ h => h) (Or.inr ⟨by rfl, rfl⟩) (by assumption) ?_
      try simp only [Act.put, List.getElem_toArray, List.getElem_cons_zero, List.getElem_cons_succ, List.setIfInBounds_toArray, List.set_cons_zero, List.set_cons_succ]
      refine wpAnyH_take (i := 89) (v := ?_) rfl (by as_aux_lemma => kernel_rfl) (by as_aux_lemma => kernel_rfl) (by as_aux_lemma => kernel_rfl) (fun _ _ _ h => h) (Or.inl ⟨by rfl, ?_⟩) (by assumption) ?_
      rotate_left 1
      · intro w hSw
        try dsimp only at hSw
        go_simp
        try with_reducible rfl
      try simp only [Act.put, List.getElem_toArray, List.getElem_cons_zero, List.getElem_cons_succ, List.setIfInBounds_toArray, List.set_cons_zero, List.set_cons_succ]
      refine wpAnyH_take (i := 90) (v := ?_) rfl (by as_aux_lemma => kernel_rfl) (by as_aux_lemma => kernel_rfl) (by as_aux_lemma => kernel_rfl) (fun _ _ _ h => h) (Or.inl ⟨by rfl, ?_⟩) (by assumption) ?_
      rotate_left 1
      · intro w hSw
        try dsimp only at hSw
        go_simp
        try with_reducible rfl
      try simp only [Act.put, List.getElem_toArray, List.getElem_cons_zero, List.getElem_cons_succ, List.setIfInBounds_toArray, List.set_cons_zero, List.set_cons_succ]
      refine wpAnyH_take (i := 91) (v := ?_) rfl (by as_aux_lemma => kernel_rfl) (by as_aux_lemma => kernel_rfl) (by as_aux_lemma => kernel_rfl) (fun _ _ _ h => h) (Or.inl ⟨by rfl, ?_⟩) (by assumption) ?_
      rotate_left 1
      · intro w hSw
        try dsimp only at hSw
        go_simp
        try with_reducible rfl
      try simp only [Act.put, List.getElem_toArray, List.getElem_cons_zero, List.getElem_cons_succ, List.setIfInBounds_toArray, List.set_cons_zero, List.set_cons_succ]
      refine wpAnyH_take (i := 92) (v := ?_) rfl (by as_aux_lemma => kernel_rfl) (by as_aux_lemma => kernel_rfl) (by as_aux_lemma => kernel_rfl) (fun _ _ _ h => h) (Or.inl ⟨by rfl, ?_⟩) (by assumption) ?_
      rotate_left 1
      · intro w hSw
        try dsimp only at hSw
        go_simp
        try with_reducible rfl
      try simp only [Act.put, List.getElem_toArray, List.getElem_cons_zero, List.getElem_cons_succ, List.setIfInBounds_toArray, List.set_cons_zero, List.set_cons_succ]
      refine wpAnyH_take (i := 93) (v := ?_) rfl (by as_aux_lemma => kernel_rfl) (by as_aux_lemma => kernel_rfl) (by as_aux_lemma => kernel_rfl) (fun _ _ _ h => h) (Or.inl ⟨by rfl, ?_⟩) (by assumption) ?_
      rotate_left 1
      · intro w hSw
        try dsimp only at hSw
        go_simp
        try with_reducible rfl
      try simp only [Act.put, List.getElem_toArray, List.getElem_cons_zero, List.getElem_cons_succ, List.setIfInBounds_toArray, List.set_cons_zero, List.set_cons_succ]
      refine wpAnyH_ready (rs := [94]) (by as_aux_lemma => kernel_rfl) (by simp) ?_
      refine AllReadyH.cons rfl (fun K hK => ?_) AllReadyH.nil
      go_simp
      refine (impl_blockC S (some ⟨gP, 0, none⟩) M cP (fun _ => cellL 0 2 2) (some ⟨gV, 0, none⟩) 6 cV vs _ _ (ownS_rowP oP fun _ _ => whole_ok (by omega) (by omega)) (oV.rowI HW.out) (Nat.le_refl _)).mono ?_
      rintro e x27 ⟨rfl, hx27⟩
      rw [EP.out]
      replace bz := bz.trans (hx27.mono (by have := bz.size; omega))
      replace kB := kB.below hx27 (by have := kB.1; omega)
      replace kD := kD.below hx27 (by have := kD.1; omega)
      replace kC := kC.below hx27 (by have := kC.1; omega)
      replace kE := kE.below hx27 (by have := kE.1; omega)
      replace kP := kP.below hx27 (by have := kP.1; omega)
      replace oB := oB.keep hx27
      replace oV := oV.keep hx27
      replace oD := oD.keep hx27
      replace oW := oW.keep hx27
      replace oP := oP.keep hx27
      clear hx27
      go_wp2_with fail
      refine hK.out _ _ ?_ (fun hHeld => ?_)
      · first | trivial | ((try dsimp only); (exact ⟨kB.2 0 _ rfl, kB.2 1 _ rfl, kD.2 0 _ rfl, kD.2 1 _ rfl, kC.2 0 _ rfl, kC.2 1 _ rfl, kC.2 2 _ rfl, kE.2 0 _ rfl, kE.2 1 _ rfl, kE.2 2 _ rfl, kP.2 0 _ rfl, kP.2 1 _ rfl, (by rw [HX.out]; exact oV.cellAt (show (f 0 1).toNat < vs.length by rw [HV6.out]; omega)), (by rw [HY.out]; exact oV.cellAt (show (f 0 2).toNat < vs.length by rw [HV6.out]; omega))⟩))
      clear hK K
      try simp only [Act.put, List.getElem_toArray, List.getElem_cons_zero, List.getElem_cons_succ, List.setIfInBounds_toArray, List.set_cons_zero, List.set_cons_succ]
      refine wpAnyH_take (i := 95) (v := ?_) rfl (by as_aux_lemma => kernel_rfl) (by as_aux_lemma => kernel_rfl) (by as_aux_lemma => kernel_rfl) (fun _ _ _ h => h) (Or.inl ⟨by rfl, ?_⟩) (by assumption) ?_
      rotate_left 1
      · intro w hSw
        try dsimp only at hSw
        go_simp
        try with_reducible rfl
      try simp only [Act.put, List.getElem_toArray, List.getElem_cons_zero, List.getElem_cons_succ, List.setIfInBounds_toArray, List.set_cons_zero, List.set_cons_succ]
      refine wpAnyH_take (i := 96) (v := ?_) rfl (by as_aux_lemma => kernel_rfl) (by as_aux_lemma => kernel_rfl) (by as_aux_lemma => kernel_rfl) (fun _ _ _ h => h) (Or.inl ⟨by rfl, ?_⟩) (by assumption) ?_
      rotate_left 1
      · intro w hSw
        try dsimp only at hSw
        go_simp
        try with_reducible rfl
      try simp only [Act.put, List.getElem_toArray, List.getElem_cons_zero, List.getElem_cons_succ, List.setIfInBounds_toArray, List.set_cons_zero, List.set_cons_succ]
      refine wpAnyH_take (i := 97) (v := ?_) rfl (by as_aux_lemma => kernel_rfl) (by as_aux_lemma => kernel_rfl) (by as_aux_lemma => kernel_rfl) (fun _ _ _ h => h) (Or.inl ⟨by rfl, ?_⟩) (by assumption) ?_
      rotate_left 1
      · intro w hSw
        try dsimp only at hSw
        go_simp
        try with_reducible rfl
      try simp only [Act.put, List.getElem_toArray, List.getElem_cons_zero, List.getElem_cons_succ, List.setIfInBounds_toArray, List.set_cons_zero, List.set_cons_succ]
      refine wpAnyH_take (i := 98) (v := ?_) rfl (by as_aux_lemma => kernel_rfl) (by as_aux_lemma => kernel_rfl) (by as_aux_lemma => kernel_rfl) (fun _ _ _ h => h) (Or.inl ⟨by rfl, ?_⟩) (by assumption) ?_
      rotate_left 1
      · intro w hSw
        try dsimp only at hSw
        go_simp
        try with_reducible rfl
      try simp only [Act.put, List.getElem_toArray, List.getElem_cons_zero, List.getElem_cons_succ, List.setIfInBounds_toArray, List.set_cons_zero, List.set_cons_succ]
      refine wpAnyH_ready (rs := [99]) (by as_aux_lemma => kernel_rfl) (by simp) ?_
      refine AllReadyH.cons rfl (fun K hK => ?_) AllReadyH.nil
      go_simp
      refine (impl_contrastOk (some ⟨gV, 0, none⟩) 6 cV vs _ _ (oV.rowI HW.out)).mono ?_
      rintro e w' ⟨rfl, rfl⟩
      rw [EK.out]
      go_wp2_with fail
      refine hK.out _ _ ?_ (fun hHeld => ?_)
      · first | trivial | ((try dsimp only); (exact ⟨kB.2 0 _ rfl, kB.2 1 _ rfl, kD.2 0 _ rfl, kD.2 1 _ rfl, kC.2 0 _ rfl, kC.2 1 _ rfl, kC.2 2 _ rfl, kE.2 0 _ rfl, kE.2 1 _ rfl, kE.2 2 _ rfl, kP.2 0 _ rfl, kP.2 1 _ rfl, (by rw [HX.out]; exact oV.cellAt (show (f 0 1).toNat < vs.length by rw [HV6.out]; omega)), (by rw [HY.out]; exact oV.cellAt (show (f 0 2).toNat < vs.length by rw [HV6.out]; omega))⟩))
      clear hK K
      try simp only [Act.put, List.getElem_toArray, List.getElem_cons_zero, List.getElem_cons_succ, List.setIfInBounds_toArray, List.set_cons_zero, List.set_cons_succ]
      refine wpAnyH_take (i := 100) (v := ?_) rfl (by as_aux_lemma => kernel_rfl) (by as_aux_lemma => kernel_rfl) (by as_aux_lemma => kernel_rfl) (fun _ _ _ h => h) (Or.inl ⟨by rfl, ?_⟩) (by assumption) ?_
      rotate_left 1
      · intro w hSw
        try dsimp only at hSw
        go_simp
        try with_reducible rfl
      try simp only [Act.put, List.getElem_toArray, List.getElem_cons_zero, List.getElem_cons_succ, List.setIfInBounds_toArray, List.set_cons_zero, List.set_cons_succ]
      refine wpAnyH_take (i := 101) (v := ?_) rfl (by as_aux_lemma => kernel_rfl) (by as_aux_lemma => kernel_rfl) (by as_aux_lemma => kernel_rfl) (fun _ _ _ h => h) (Or.inl ⟨by rfl, ?_⟩) (by assumption) ?_
      rotate_left 1
      · intro w hSw
        try dsimp only at hSw
        go_simp
        try with_reducible rfl
      try simp only [Act.put, List.getElem_toArray, List.getElem_cons_zero, List.getElem_cons_succ, List.setIfInBounds_toArray, List.set_cons_zero, List.set_cons_succ]
      refine wpAnyH_done (by as_aux_lemma => kernel_rfl) ?_ _
      go_wp2
      go_ret
      exact ⟨rfl, bz⟩

set_option maxRecDepth 100000 in
theorem lifted (os : Os) (started : os.Started) (H : Type) (enc : TypeId × Value → H) :
    ReturnsInHanded {} Try.checked os 8 .any (Rows.fnContrastSpec.pre6 enc Try.prog Try.f8 Rows.fnContrastRow.domain false) (Rows.fnContrastSpec.post enc Try.prog Try.f8 false true false false) := by
  refine returnsInHanded_of_change (C := Try.checked) own started (by kernel_rfl) Try.func8
    (ChangeSpec.witness6 (enc := enc) (C := Try.checked) false ⟨#[], #[.slice none 0 0], []⟩ 8 (by kernel_rfl) (by kernel_rfl) (by kernel_rfl) (by kernel_rfl)) ?_
  intro W base args ds gs before hval0 hW hcnd _
  have hval : ∀ (j : Nat) t v, Try.f8.params[j]? = some t → args[j]? = some v → Value.okWide Try.prog W .any base t v := hval0
  have hW' := hW
  obtain ⟨p, q, hA0, hV, rfl, hfz, hnd⟩ := hW
  have hA : DataW.TrodAll enc Try.prog W 0 (fun _ => true) true Try.f8.params.toList args.toList ds p := hA0
  rw [Try.params8] at hA hval
  obtain ⟨v0, vs0, d0, ds0, p0, q0, hargs, rfl, rfl, h0, r0⟩ := trodAll_cons hA
  obtain ⟨rfl, rfl, rfl⟩ := trodAll_nil r0
  obtain rfl : args = #[v0] := by cases args; simp_all
  obtain ⟨rfl, rfl⟩ := trodVars_none hV
  have k0 := h0
  have lt0 : ∀ x ∈ p0, x.block < W.heap.size := by obtain ⟨m, hm⟩ := k0; exact DataW.trod_lt m _ _ _ hm
  obtain ⟨a0, l0, c0, rfl⟩ := okWide_slice Try.underlying49 (hval 0 49 v0 rfl rfl)
  obtain ⟨z0, w0⟩ := open_rowI Try.underlying49 Try.underlying5 (by kernel_rfl) (h0)
  clear hA0 hval0
  refine (walk a0 l0 c0 z0 W w0).mono fun e W' ⟨he, bel⟩ => ?_
  subst he
  exact ⟨_, rfl, _, _, _, [], _, [], hW', trodAll_mk1 (shut_bool Try.underlying4 _), (trodAll_cons_mk (Below.trod laidOut (by kernel_rfl) (of_decide_eq_true (by kernel_rfl)) k0 bel lt0) trodAll_mk0), rfl, bel.frame _, fun h => by cases h⟩

theorem over : Rows.fnContrastRow.holds Try.pinned (OpenSpec.ofChange Rows.fnContrastSpec) :=
  OpenClaim.holds_of_wide 8 Try.f8 rfl rfl rfl rfl rfl rfl rfl ⟨rfl, rfl, rfl, rfl, rfl⟩ rfl rfl rfl rfl rfl (by kernel_rfl) Try.func8 (by kernel_rfl)
    (of_decide_eq_true (by kernel_rfl)) (by unfold Func.isWrapper; first | (rw [if_pos (by decide +kernel)]; kernel_rfl) | (rw [if_neg (by decide +kernel)]; exact ⟨rfl, rfl⟩))
    (fun os started H enc _ => lifted os started H enc)

/-- The statement. -/
theorem proved : Rows.FnContrastSaid := over
#print axioms proved
end Go.Proofs.Ythenjmjnooaokaa.fnContrast
