/-
  The law FnExactOneThread: for every input the Go function returns true, and each argument reads afterwards as it read before.
  Conditions: none beyond the row's own.
-/
import Derived.Test.YtkgabnhfjmldbaaOneR
import Derived.Test.YtkgabnhfjmldbaaLines
import Derived.ChangeOld
import Derived.Carry
namespace Go.Proofs.Ytkgabnhfjmldbaa.fnExactOneThread
open Go.ChangeShapes Go.WideShapes Go.ChangeAt Go.RowKit Go.Joins
open Go.ChangeMaps (open_string shut_string)
set_option linter.unusedVariables false

theorem own : ownKnob Try.prog.godebug = none := by kernel_rfl
theorem laidOut : laidOutB Try.prog = true := by kernel_rfl

set_option maxHeartbeats 4000000 in
theorem walk (a : Int) (a0 : Option Addr) (l0 c0 : Nat) (f0 : Nat → Nat → Int) (w : World) (wa : (Lit.int .i64 a).wf = true) (w0 : RowS 2 w w.heap.size a0 l0 c0 f0) :
    Calls Try.prog 4 #[.int .i64 a, .slice a0 l0 c0] w fun e w' => e = .returned (.bool true) ∧ Below w.heap.size w w' := by
  clear wa
  have hcap := w0.cap
  unfold maxLen at hcap
  have wp := w0.rowP
  have HWf : Hid (∀ i, i < l0 → ∀ j, j < 2 → (Lit.int .i64 (f0 i j)).wf = true) := Lib.hid fun i _ j _ => w0.wf i j
  obtain ⟨R, hR0⟩ : ∃ R, R = oneW a l0 f0 := ⟨_, rfl⟩
  obtain ⟨b, hb0⟩ : ∃ b, b = oneTh a l0 f0 := ⟨_, rfl⟩
  have hR := Lib.hid hR0
  have hbH := Lib.hid hb0
  have hbd := oneW_bd a l0 f0
  rw [← hR0] at hbd
  have hRl : R.length ≤ 21 := hbd.1
  have HW := Lib.hid (show ∀ z ∈ R, (Lit.int .i64 z).wf = true from fun z hz => WalkArith.wf_i64 (by have := hbd.2 z hz; omega))
  have hbb : (b != b) = false := by simp
  clear hR0 hb0 hbd
  rcases (by omega : l0 ≤ 1048576 ∨ 1048576 < l0) with q | q
  rotate_left
  · go_enter Try.func4, Try.ntmps4
    go_wp2_with fail
    refine (sz_lines a0 l0 c0 1048576 w (by omega) (by omega) (by omega)).mono ?_
    rintro e w' ⟨rfl, rfl⟩
    rw [if_pos (by omega)]
    go_wp2
    go_ret
    exact ⟨rfl, Below.refl _ _⟩
  have b0 : Below w.heap.size w w := Below.refl _ _
  go_enter Try.func4, Try.ntmps4
  go_wp2_with fail
  refine (sz_lines a0 l0 c0 1048576 w (by omega) (by omega) (by omega)).mono ?_
  rintro e y1 ⟨rfl, rfl⟩
  rw [if_neg (by omega)]
  go_wp2_with fail
  refine (to_lines a0 l0 c0 f0 w.heap.size _ (wp.below b0) b0.size q).mono ?_
  rintro e x1 ⟨rfl, oP, h1⟩
  have b1 : Below w.heap.size w x1 := b0.trans (h1.mono b0.size)
  have u1 := h1.size
  have tP : ∀ k, blk (some ⟨w.heap.size, 0, none⟩) = some k → w.heap.size ≤ k ∧ k < x1.heap.size := oP.ge'
  go_wp2_with fail
  refine (spec_oneR a (some ⟨w.heap.size, 0, none⟩) l0 l0 f0 R b _ _ (oP.rowP HWf.out) (Nat.le_refl _) hR hbH).mono ?_
  rintro e x2 ⟨AW, cW, rfl, oW, h2⟩
  have b2 : Below w.heap.size w x2 := b1.trans (h2.mono b1.size)
  have u2 := h2.size
  replace oP := oP.keep h2
  have tW : ∀ k, blk AW = some k → x1.heap.size ≤ k ∧ k < x2.heap.size := oW.ge'
  go_wp2_with fail
  refine (to_lines a0 l0 c0 f0 w.heap.size _ (wp.below b2) b2.size q).mono ?_
  rintro e x3 ⟨rfl, oX, h3⟩
  have b3 : Below w.heap.size w x3 := b2.trans (h3.mono b2.size)
  have u3 := h3.size
  replace oW := oW.keep h3
  replace oP := oP.keep h3
  have tX : ∀ k, blk (some ⟨x2.heap.size, 0, none⟩) = some k → x2.heap.size ≤ k ∧ k < x3.heap.size := oX.ge'
  go_wp2_with fail
  refine (impl_oneR a (some ⟨x2.heap.size, 0, none⟩) l0 l0 f0 R b _ _ (oX.rowP HWf.out) (Nat.le_refl _) hR hbH).mono ?_
  rintro e x4 ⟨AG, cG, rfl, oG, h4⟩
  have b4 : Below w.heap.size w x4 := b3.trans (h4.mono b3.size)
  have u4 := h4.size
  replace oW := oW.keep h4
  replace oP := oP.keep h4
  replace oX := oX.keep h4
  have tG : ∀ k, blk AG = some k → x3.heap.size ≤ k ∧ k < x4.heap.size := oG.ge'
  go_wp2_with fail
  refine (eq_ints AG AW R.length cG cW R _ _ _ (oG.rowI HW.out) (oW.rowI HW.out)).mono ?_
  rintro e x5 ⟨rfl, h5⟩
  have b5 : Below w.heap.size w x5 := b4.trans (h5.mono b4.size)
  have u5 := h5.size
  replace oW := oW.keep h5
  replace oG := oG.keep h5
  replace oP := oP.keep h5
  replace oX := oX.keep h5
  go_wp2_with fail
  refine (to_lines a0 l0 c0 f0 w.heap.size _ (wp.below b5) b5.size q).mono ?_
  rintro e x6 ⟨rfl, oY, h6⟩
  have b6 : Below w.heap.size w x6 := b5.trans (h6.mono b5.size)
  have u6 := h6.size
  replace oW := oW.keep h6
  replace oG := oG.keep h6
  replace oP := oP.keep h6
  replace oX := oX.keep h6
  have tY : ∀ k, blk (some ⟨x5.heap.size, 0, none⟩) = some k → x5.heap.size ≤ k ∧ k < x6.heap.size := oY.ge'
  go_wp2_with fail
  refine (eq_lines (some ⟨x2.heap.size, 0, none⟩) (some ⟨x5.heap.size, 0, none⟩) l0 l0 l0 f0 _ _ _ (oX.rowP HWf.out) (oY.rowP HWf.out) (Nat.le_refl _) (Nat.le_refl _)).mono ?_
  rintro e x7 ⟨rfl, h7⟩
  have b7 : Below w.heap.size w x7 := b6.trans (h7.mono b6.size)
  have u7 := h7.size
  replace oW := oW.keep h7
  replace oG := oG.keep h7
  replace oP := oP.keep h7
  replace oX := oX.keep h7
  replace oY := oY.keep h7
  go_wp2_with fail
  refine (mark_lines (some ⟨x2.heap.size, 0, none⟩) l0 l0 f0 _ 1 _ oX q (by omega) (by omega)).mono ?_
  rintro e x8 ⟨rfl, pX, g8⟩
  have b8 : Below w.heap.size w x8 := b7.grown g8 b7.size (fun k hk => by have := tX k hk; omega)
  have u8 := g8.size
  replace oW := oW.apart g8 (fun k hk hk' => by have := tW k hk; have := tX k hk'; omega)
  replace oG := oG.apart g8 (fun k hk hk' => by have := tG k hk; have := tX k hk'; omega)
  replace oP := oP.apart g8 (fun k hk hk' => by have := tP k hk; have := tX k hk'; omega)
  replace oY := oY.apart g8 (fun k hk hk' => by have := tY k hk; have := tX k hk'; omega)
  clear oX g8
  have oX := pX
  clear pX
  go_wp2_with fail
  refine (eq_ints AG AW R.length cG cW R _ _ _ (oG.rowI HW.out) (oW.rowI HW.out)).mono ?_
  rintro e x9 ⟨rfl, h9⟩
  have b9 : Below w.heap.size w x9 := b8.trans (h9.mono b8.size)
  have u9 := h9.size
  replace oW := oW.keep h9
  replace oG := oG.keep h9
  replace oP := oP.keep h9
  replace oX := oX.keep h9
  replace oY := oY.keep h9
  go_wp2_with fail
  refine (mark_ints AG R.length cG R _ 1 _ oG (by omega) (by omega) (by omega)).mono ?_
  rintro e x10 ⟨rfl, pG, g10⟩
  have b10 : Below w.heap.size w x10 := b9.grown g10 b9.size (fun k hk => by have := tG k hk; omega)
  have u10 := g10.size
  replace oW := oW.apart g10 (fun k hk hk' => by have := tW k hk; have := tG k hk'; omega)
  replace oP := oP.apart g10 (fun k hk hk' => by have := tP k hk; have := tG k hk'; omega)
  replace oX := oX.apart g10 (fun k hk hk' => by have := tX k hk; have := tG k hk'; omega)
  replace oY := oY.apart g10 (fun k hk hk' => by have := tY k hk; have := tG k hk'; omega)
  clear oG g10
  have oG := pG
  clear pG
  go_wp2_with fail
  refine (held_ints AG R.length cG 1 _ _ (oG.rowI (marks_wf (by omega) (by omega) (by omega))) (by omega) (by omega) (by omega)).mono ?_
  rintro e y11 ⟨rfl, rfl⟩
  go_wp2_with fail
  refine (to_lines a0 l0 c0 f0 w.heap.size _ (wp.below b10) b10.size q).mono ?_
  rintro e x11 ⟨rfl, oP2, h11⟩
  have b11 : Below w.heap.size w x11 := b10.trans (h11.mono b10.size)
  have u11 := h11.size
  replace oW := oW.keep h11
  replace oG := oG.keep h11
  replace oP := oP.keep h11
  replace oX := oX.keep h11
  replace oY := oY.keep h11
  have tP2 : ∀ k, blk (some ⟨x10.heap.size, 0, none⟩) = some k → x10.heap.size ≤ k ∧ k < x11.heap.size := oP2.ge'
  go_wp2_with fail
  refine (impl_oneR a (some ⟨x10.heap.size, 0, none⟩) l0 l0 f0 R b _ _ (oP2.rowP HWf.out) (Nat.le_refl _) hR hbH).mono ?_
  rintro e x12 ⟨AH, cH, rfl, oH, h12⟩
  have b12 : Below w.heap.size w x12 := b11.trans (h12.mono b11.size)
  have u12 := h12.size
  replace oW := oW.keep h12
  replace oG := oG.keep h12
  replace oP := oP.keep h12
  replace oX := oX.keep h12
  replace oY := oY.keep h12
  replace oP2 := oP2.keep h12
  have tH : ∀ k, blk AH = some k → x11.heap.size ≤ k ∧ k < x12.heap.size := oH.ge'
  go_wp2_with fail
  refine (eq_ints AH AW R.length cH cW R _ _ _ (oH.rowI HW.out) (oW.rowI HW.out)).mono ?_
  rintro e x13 ⟨rfl, h13⟩
  have b13 : Below w.heap.size w x13 := b12.trans (h13.mono b12.size)
  have u13 := h13.size
  replace oW := oW.keep h13
  replace oG := oG.keep h13
  replace oH := oH.keep h13
  replace oP := oP.keep h13
  replace oX := oX.keep h13
  replace oY := oY.keep h13
  replace oP2 := oP2.keep h13
  go_wp2_with fail
  refine (held_ints AG R.length cG 1 _ _ (oG.rowI (marks_wf (by omega) (by omega) (by omega))) (by omega) (by omega) (by omega)).mono ?_
  rintro e y14 ⟨rfl, rfl⟩
  go_wp2
  go_ret
  exact ⟨rfl, b13⟩

set_option maxRecDepth 100000 in
theorem lifted (os : Os) (started : os.Started) (H : Type) (enc : TypeId × Value → H) :
    ReturnsInHanded {} Try.checked os 4 .any (Rows.fnExactOneThreadSpec.pre6 enc Try.prog Try.f4 Rows.fnExactOneThreadRow.domain false) (Rows.fnExactOneThreadSpec.post enc Try.prog Try.f4 false true false false) := by
  refine returnsInHanded_of_change (C := Try.checked) own started (by kernel_rfl) Try.func4
    (ChangeSpec.witness6 (enc := enc) (C := Try.checked) false ⟨#[], #[.int .i64 0, .slice none 0 0], []⟩ 8 (by kernel_rfl) (by kernel_rfl) (by kernel_rfl) (by kernel_rfl)) ?_
  intro W base args ds gs before hval0 hW hcnd _
  have hval : ∀ (j : Nat) t v, Try.f4.params[j]? = some t → args[j]? = some v → Value.okWide Try.prog W .any base t v := hval0
  have hW' := hW
  obtain ⟨p, q, hA0, hV, rfl, hfz, hnd⟩ := hW
  have hA : DataW.TrodAll enc Try.prog W 0 (fun _ => true) true Try.f4.params.toList args.toList ds p := hA0
  rw [Try.params4] at hA hval
  obtain ⟨v0, vs0, d0, ds0, p0, q0, hargs, rfl, rfl, h0, r0⟩ := trodAll_cons hA
  obtain ⟨v1, vs1, d1, ds1, p1, q1, rfl, rfl, rfl, h1, r1⟩ := trodAll_cons r0
  obtain ⟨rfl, rfl, rfl⟩ := trodAll_nil r1
  obtain rfl : args = #[v0, v1] := by cases args; simp_all
  obtain ⟨rfl, rfl⟩ := trodVars_none hV
  have k0 := h0
  have lt0 : ∀ x ∈ p0, x.block < W.heap.size := by obtain ⟨m, hm⟩ := k0; exact DataW.trod_lt m _ _ _ hm
  have k1 := h1
  have lt1 : ∀ x ∈ p1, x.block < W.heap.size := by obtain ⟨m, hm⟩ := k1; exact DataW.trod_lt m _ _ _ hm
  obtain ⟨a0, rfl, rfl, rfl, w0⟩ := open_int Try.underlying3 (hval 0 3 v0 rfl rfl) h0
  obtain ⟨a1, l1, c1, rfl⟩ := okWide_slice Try.underlying22 (hval 1 22 v1 rfl rfl)
  obtain ⟨f1, w1⟩ := open_rowS (m := 2) Try.underlying22 Try.underlying45 (by kernel_rfl) rfl (by kernel_rfl) (by kernel_rfl) (by decide) (h1)
  clear hA0 hval0
  refine (walk a0 a1 l1 c1 f1 W w0 w1).mono fun e W' ⟨he, bel⟩ => ?_
  subst he
  exact ⟨_, rfl, _, _, _, [], _, [], hW', trodAll_mk1 (shut_bool Try.underlying4 _), (trodAll_cons_mk (Below.trod laidOut (by kernel_rfl) (of_decide_eq_true (by kernel_rfl)) k0 bel lt0) (trodAll_cons_mk (Below.trod laidOut (by kernel_rfl) (of_decide_eq_true (by kernel_rfl)) k1 bel lt1) trodAll_mk0)), rfl, bel.frame _, fun h => by cases h⟩

theorem over : Rows.fnExactOneThreadRow.holds Try.pinned (OpenSpec.ofChange Rows.fnExactOneThreadSpec) :=
  OpenClaim.holds_of_wide 4 Try.f4 rfl rfl rfl rfl rfl rfl rfl ⟨rfl, rfl, rfl, rfl, rfl⟩ rfl rfl rfl rfl rfl (by kernel_rfl) Try.func4 (by kernel_rfl)
    (of_decide_eq_true (by kernel_rfl)) (by unfold Func.isWrapper; first | (rw [if_pos (by decide +kernel)]; kernel_rfl) | (rw [if_neg (by decide +kernel)]; exact ⟨rfl, rfl⟩))
    (fun os started H enc _ => lifted os started H enc)

/-- The statement. -/
theorem proved : Rows.FnExactOneThreadSaid := over
#print axioms proved
end Go.Proofs.Ytkgabnhfjmldbaa.fnExactOneThread
