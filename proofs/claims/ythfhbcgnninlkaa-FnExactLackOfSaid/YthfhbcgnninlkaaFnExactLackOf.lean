/-
  The law FnExactLackOf: for every input the Go function returns true, and each argument reads afterwards as it read before.
  Conditions: none beyond the row's own.
-/
import Derived.Test.YthfhbcgnninlkaaStock2
import Derived.ChangeOld
import Derived.Carry
namespace Go.Proofs.Ythfhbcgnninlkaa.fnExactLackOf
open Go.ChangeShapes Go.WideShapes Go.ChangeAt Go.RowKit Go.Joins
open Go.ChangeMaps (open_string shut_string)
set_option linter.unusedVariables false

theorem own : ownKnob Try.prog.godebug = none := by kernel_rfl
theorem laidOut : laidOutB Try.prog = true := by kernel_rfl

set_option maxHeartbeats 2000000 in
theorem walk (a0 : Option Addr) (l0 c0 : Nat) (z0 : List Int) (a1 : Option Addr) (l1 c1 : Nat) (z1 : List Int) (w : World) (w0 : RowI .i64 w w.heap.size a0 l0 c0 z0) (w1 : RowI .i64 w w.heap.size a1 l1 c1 z1) :
    Calls Try.prog 8 #[.slice a0 l0 c0, .slice a1 l1 c1] w fun e w' => e = .returned (.bool true) ∧ Below w.heap.size w w' := by
  rcases (by omega : l0 ≤ 1048576 ∨ 1048576 < l0) with q0 | q0
  rotate_left
  · go_enter Try.func8, Try.ntmps8
    go_wp2
    go_ret
    exact ⟨rfl, Below.refl _ _⟩
  rcases (by omega : l1 ≤ 1048576 ∨ 1048576 < l1) with q1 | q1
  rotate_left
  · go_enter Try.func8, Try.ntmps8
    go_wp2
    go_ret
    exact ⟨rfl, Below.refl _ _⟩
  obtain ⟨R, hR0⟩ : ∃ R, R = lackOf z0 z1 l0 l1 := ⟨_, rfl⟩
  have hR := Lib.hid hR0
  have hRl : R.length ≤ 6 := by rw [hR0]; exact lackOf_len _ _ _ _
  have hRw : ∀ z ∈ R, (Lit.int .i64 z).wf = true := by rw [hR0]; exact lackOf_wf w0.len w1.len
  clear hR0
  have HW := Lib.hid hRw
  clear hRw
  have b0 : Below w.heap.size w w := Below.refl _ _
  go_enter Try.func8, Try.ntmps8
  go_wp2_with fail
  refine (to_ints a0 l0 c0 z0 w.heap.size _ (w0.below b0) b0.size (by omega)).mono ?_
  rintro e x1 ⟨rfl, oP, h1⟩
  have b1 : Below w.heap.size w x1 := b0.trans (h1.mono b0.size)
  have u1 := h1.size
  have tP : ∀ k, blk (some ⟨w.heap.size, 0, none⟩) = some k → w.heap.size ≤ k ∧ k < x1.heap.size := oP.ge'
  go_wp2_with fail
  refine (to_ints a1 l1 c1 z1 w.heap.size _ (w1.below b1) b1.size (by omega)).mono ?_
  rintro e x2 ⟨rfl, oQ, h2⟩
  have b2 : Below w.heap.size w x2 := b1.trans (h2.mono b1.size)
  have u2 := h2.size
  replace oP := oP.keep h2
  have tQ : ∀ k, blk (some ⟨x1.heap.size, 0, none⟩) = some k → x1.heap.size ≤ k ∧ k < x2.heap.size := oQ.ge'
  go_wp2_with fail
  refine (spec_lackOf (some ⟨w.heap.size, 0, none⟩) (some ⟨x1.heap.size, 0, none⟩) l0 l1 l0 l1 z0 z1 R _ _ _ (oP.rowI (fun z hz => w0.2.2.2.1 z hz)) (oQ.rowI (fun z hz => w1.2.2.2.1 z hz)) (Nat.le_refl _) (Nat.le_refl _) hR).mono ?_
  rintro e x3 ⟨AW, cW, rfl, oW, h3⟩
  have b3 : Below w.heap.size w x3 := b2.trans (h3.mono b2.size)
  have u3 := h3.size
  replace oP := oP.keep h3
  replace oQ := oQ.keep h3
  have tW : ∀ k, blk AW = some k → x2.heap.size ≤ k ∧ k < x3.heap.size := oW.ge'
  go_wp2_with fail
  refine (to_ints a0 l0 c0 z0 w.heap.size _ (w0.below b3) b3.size (by omega)).mono ?_
  rintro e x4 ⟨rfl, oX, h4⟩
  have b4 : Below w.heap.size w x4 := b3.trans (h4.mono b3.size)
  have u4 := h4.size
  replace oP := oP.keep h4
  replace oQ := oQ.keep h4
  replace oW := oW.keep h4
  have tX : ∀ k, blk (some ⟨x3.heap.size, 0, none⟩) = some k → x3.heap.size ≤ k ∧ k < x4.heap.size := oX.ge'
  go_wp2_with fail
  refine (to_ints a1 l1 c1 z1 w.heap.size _ (w1.below b4) b4.size (by omega)).mono ?_
  rintro e x5 ⟨rfl, oZ, h5⟩
  have b5 : Below w.heap.size w x5 := b4.trans (h5.mono b4.size)
  have u5 := h5.size
  replace oP := oP.keep h5
  replace oQ := oQ.keep h5
  replace oW := oW.keep h5
  replace oX := oX.keep h5
  have tZ : ∀ k, blk (some ⟨x4.heap.size, 0, none⟩) = some k → x4.heap.size ≤ k ∧ k < x5.heap.size := oZ.ge'
  go_wp2_with fail
  refine (impl_lackOf (some ⟨x3.heap.size, 0, none⟩) (some ⟨x4.heap.size, 0, none⟩) l0 l1 l0 l1 z0 z1 R _ _ _ (oX.rowI (fun z hz => w0.2.2.2.1 z hz)) (oZ.rowI (fun z hz => w1.2.2.2.1 z hz)) (Nat.le_refl _) (Nat.le_refl _) hR).mono ?_
  rintro e x6 ⟨AG, cG, rfl, oG, h6⟩
  have b6 : Below w.heap.size w x6 := b5.trans (h6.mono b5.size)
  have u6 := h6.size
  replace oP := oP.keep h6
  replace oQ := oQ.keep h6
  replace oW := oW.keep h6
  replace oX := oX.keep h6
  replace oZ := oZ.keep h6
  have tG : ∀ k, blk AG = some k → x5.heap.size ≤ k ∧ k < x6.heap.size := oG.ge'
  go_wp2_with fail
  refine (eq_ints AG AW R.length cG cW R _ _ _ (oG.rowI HW.out) (oW.rowI HW.out)).mono ?_
  rintro e x7 ⟨rfl, h7⟩
  have b7 : Below w.heap.size w x7 := b6.trans (h7.mono b6.size)
  have u7 := h7.size
  replace oP := oP.keep h7
  replace oQ := oQ.keep h7
  replace oW := oW.keep h7
  replace oX := oX.keep h7
  replace oZ := oZ.keep h7
  replace oG := oG.keep h7
  go_wp2_with fail
  refine (to_ints a0 l0 c0 z0 w.heap.size _ (w0.below b7) b7.size (by omega)).mono ?_
  rintro e x8 ⟨rfl, oY, h8⟩
  have b8 : Below w.heap.size w x8 := b7.trans (h8.mono b7.size)
  have u8 := h8.size
  replace oP := oP.keep h8
  replace oQ := oQ.keep h8
  replace oW := oW.keep h8
  replace oX := oX.keep h8
  replace oZ := oZ.keep h8
  replace oG := oG.keep h8
  have tY : ∀ k, blk (some ⟨x7.heap.size, 0, none⟩) = some k → x7.heap.size ≤ k ∧ k < x8.heap.size := oY.ge'
  go_wp2_with fail
  refine (eq_ints (some ⟨x3.heap.size, 0, none⟩) (some ⟨x7.heap.size, 0, none⟩) l0 l0 l0 z0 _ _ _ (oX.rowI (fun z hz => w0.2.2.2.1 z hz)) (oY.rowI (fun z hz => w0.2.2.2.1 z hz))).mono ?_
  rintro e x9 ⟨rfl, h9⟩
  have b9 : Below w.heap.size w x9 := b8.trans (h9.mono b8.size)
  have u9 := h9.size
  replace oP := oP.keep h9
  replace oQ := oQ.keep h9
  replace oW := oW.keep h9
  replace oX := oX.keep h9
  replace oZ := oZ.keep h9
  replace oG := oG.keep h9
  replace oY := oY.keep h9
  go_wp2_with fail
  refine (to_ints a1 l1 c1 z1 w.heap.size _ (w1.below b9) b9.size (by omega)).mono ?_
  rintro e x10 ⟨rfl, oV, h10⟩
  have b10 : Below w.heap.size w x10 := b9.trans (h10.mono b9.size)
  have u10 := h10.size
  replace oP := oP.keep h10
  replace oQ := oQ.keep h10
  replace oW := oW.keep h10
  replace oX := oX.keep h10
  replace oZ := oZ.keep h10
  replace oG := oG.keep h10
  replace oY := oY.keep h10
  have tV : ∀ k, blk (some ⟨x9.heap.size, 0, none⟩) = some k → x9.heap.size ≤ k ∧ k < x10.heap.size := oV.ge'
  go_wp2_with fail
  refine (eq_ints (some ⟨x4.heap.size, 0, none⟩) (some ⟨x9.heap.size, 0, none⟩) l1 l1 l1 z1 _ _ _ (oZ.rowI (fun z hz => w1.2.2.2.1 z hz)) (oV.rowI (fun z hz => w1.2.2.2.1 z hz))).mono ?_
  rintro e x11 ⟨rfl, h11⟩
  have b11 : Below w.heap.size w x11 := b10.trans (h11.mono b10.size)
  have u11 := h11.size
  replace oP := oP.keep h11
  replace oQ := oQ.keep h11
  replace oW := oW.keep h11
  replace oX := oX.keep h11
  replace oZ := oZ.keep h11
  replace oG := oG.keep h11
  replace oY := oY.keep h11
  replace oV := oV.keep h11
  go_wp2_with fail
  refine (mark_ints (some ⟨x3.heap.size, 0, none⟩) l0 l0 z0 _ 1 _ oX (by omega) (by omega) (by omega)).mono ?_
  rintro e x12 ⟨rfl, pX, g12⟩
  have b12 : Below w.heap.size w x12 := b11.grown g12 b11.size (fun k hk => by have := tX k hk; omega)
  have u12 := g12.size
  replace oP := oP.apart g12 (fun k hk hk' => by have := tP k hk; have := tX k hk'; omega)
  replace oQ := oQ.apart g12 (fun k hk hk' => by have := tQ k hk; have := tX k hk'; omega)
  replace oW := oW.apart g12 (fun k hk hk' => by have := tW k hk; have := tX k hk'; omega)
  replace oZ := oZ.apart g12 (fun k hk hk' => by have := tZ k hk; have := tX k hk'; omega)
  replace oG := oG.apart g12 (fun k hk hk' => by have := tG k hk; have := tX k hk'; omega)
  replace oY := oY.apart g12 (fun k hk hk' => by have := tY k hk; have := tX k hk'; omega)
  replace oV := oV.apart g12 (fun k hk hk' => by have := tV k hk; have := tX k hk'; omega)
  clear oX g12
  have oX := pX
  clear pX
  go_wp2_with fail
  refine (mark_ints (some ⟨x4.heap.size, 0, none⟩) l1 l1 z1 _ (1 + (l0 : Int)) _ oZ (by omega) (by omega) (by omega)).mono ?_
  rintro e x13 ⟨rfl, pZ, g13⟩
  have b13 : Below w.heap.size w x13 := b12.grown g13 b12.size (fun k hk => by have := tZ k hk; omega)
  have u13 := g13.size
  replace oP := oP.apart g13 (fun k hk hk' => by have := tP k hk; have := tZ k hk'; omega)
  replace oQ := oQ.apart g13 (fun k hk hk' => by have := tQ k hk; have := tZ k hk'; omega)
  replace oW := oW.apart g13 (fun k hk hk' => by have := tW k hk; have := tZ k hk'; omega)
  replace oX := oX.apart g13 (fun k hk hk' => by have := tX k hk; have := tZ k hk'; omega)
  replace oG := oG.apart g13 (fun k hk hk' => by have := tG k hk; have := tZ k hk'; omega)
  replace oY := oY.apart g13 (fun k hk hk' => by have := tY k hk; have := tZ k hk'; omega)
  replace oV := oV.apart g13 (fun k hk hk' => by have := tV k hk; have := tZ k hk'; omega)
  clear oZ g13
  have oZ := pZ
  clear pZ
  go_wp2_with fail
  refine (eq_ints AG AW R.length cG cW R _ _ _ (oG.rowI HW.out) (oW.rowI HW.out)).mono ?_
  rintro e x14 ⟨rfl, h14⟩
  have b14 : Below w.heap.size w x14 := b13.trans (h14.mono b13.size)
  have u14 := h14.size
  replace oP := oP.keep h14
  replace oQ := oQ.keep h14
  replace oW := oW.keep h14
  replace oX := oX.keep h14
  replace oZ := oZ.keep h14
  replace oG := oG.keep h14
  replace oY := oY.keep h14
  replace oV := oV.keep h14
  go_wp2_with fail
  refine (mark_ints AG R.length cG R _ 1 _ oG (by omega) (by omega) (by omega)).mono ?_
  rintro e x15 ⟨rfl, pG, g15⟩
  have b15 : Below w.heap.size w x15 := b14.grown g15 b14.size (fun k hk => by have := tG k hk; omega)
  have u15 := g15.size
  replace oP := oP.apart g15 (fun k hk hk' => by have := tP k hk; have := tG k hk'; omega)
  replace oQ := oQ.apart g15 (fun k hk hk' => by have := tQ k hk; have := tG k hk'; omega)
  replace oW := oW.apart g15 (fun k hk hk' => by have := tW k hk; have := tG k hk'; omega)
  replace oX := oX.apart g15 (fun k hk hk' => by have := tX k hk; have := tG k hk'; omega)
  replace oZ := oZ.apart g15 (fun k hk hk' => by have := tZ k hk; have := tG k hk'; omega)
  replace oY := oY.apart g15 (fun k hk hk' => by have := tY k hk; have := tG k hk'; omega)
  replace oV := oV.apart g15 (fun k hk hk' => by have := tV k hk; have := tG k hk'; omega)
  clear oG g15
  have oG := pG
  clear pG
  go_wp2_with fail
  refine (held_ints AG R.length cG 1 _ _ (oG.rowI (marks_wf (by omega) (by omega) (by omega))) (by omega) (by omega) (by omega)).mono ?_
  rintro e y16 ⟨rfl, rfl⟩
  go_wp2_with fail
  refine (to_ints a0 l0 c0 z0 w.heap.size _ (w0.below b15) b15.size (by omega)).mono ?_
  rintro e x16 ⟨rfl, oP2, h16⟩
  have b16 : Below w.heap.size w x16 := b15.trans (h16.mono b15.size)
  have u16 := h16.size
  replace oP := oP.keep h16
  replace oQ := oQ.keep h16
  replace oW := oW.keep h16
  replace oX := oX.keep h16
  replace oZ := oZ.keep h16
  replace oG := oG.keep h16
  replace oY := oY.keep h16
  replace oV := oV.keep h16
  have tP2 : ∀ k, blk (some ⟨x15.heap.size, 0, none⟩) = some k → x15.heap.size ≤ k ∧ k < x16.heap.size := oP2.ge'
  go_wp2_with fail
  refine (to_ints a1 l1 c1 z1 w.heap.size _ (w1.below b16) b16.size (by omega)).mono ?_
  rintro e x17 ⟨rfl, oQ2, h17⟩
  have b17 : Below w.heap.size w x17 := b16.trans (h17.mono b16.size)
  have u17 := h17.size
  replace oP := oP.keep h17
  replace oQ := oQ.keep h17
  replace oW := oW.keep h17
  replace oX := oX.keep h17
  replace oZ := oZ.keep h17
  replace oG := oG.keep h17
  replace oY := oY.keep h17
  replace oV := oV.keep h17
  replace oP2 := oP2.keep h17
  have tQ2 : ∀ k, blk (some ⟨x16.heap.size, 0, none⟩) = some k → x16.heap.size ≤ k ∧ k < x17.heap.size := oQ2.ge'
  go_wp2_with fail
  refine (impl_lackOf (some ⟨x15.heap.size, 0, none⟩) (some ⟨x16.heap.size, 0, none⟩) l0 l1 l0 l1 z0 z1 R _ _ _ (oP2.rowI (fun z hz => w0.2.2.2.1 z hz)) (oQ2.rowI (fun z hz => w1.2.2.2.1 z hz)) (Nat.le_refl _) (Nat.le_refl _) hR).mono ?_
  rintro e x18 ⟨AH, cH, rfl, oH, h18⟩
  have b18 : Below w.heap.size w x18 := b17.trans (h18.mono b17.size)
  have u18 := h18.size
  replace oP := oP.keep h18
  replace oQ := oQ.keep h18
  replace oW := oW.keep h18
  replace oX := oX.keep h18
  replace oZ := oZ.keep h18
  replace oG := oG.keep h18
  replace oY := oY.keep h18
  replace oV := oV.keep h18
  replace oP2 := oP2.keep h18
  replace oQ2 := oQ2.keep h18
  have tH : ∀ k, blk AH = some k → x17.heap.size ≤ k ∧ k < x18.heap.size := oH.ge'
  go_wp2_with fail
  refine (eq_ints AH AW R.length cH cW R _ _ _ (oH.rowI HW.out) (oW.rowI HW.out)).mono ?_
  rintro e x19 ⟨rfl, h19⟩
  have b19 : Below w.heap.size w x19 := b18.trans (h19.mono b18.size)
  have u19 := h19.size
  replace oP := oP.keep h19
  replace oQ := oQ.keep h19
  replace oW := oW.keep h19
  replace oX := oX.keep h19
  replace oZ := oZ.keep h19
  replace oG := oG.keep h19
  replace oY := oY.keep h19
  replace oV := oV.keep h19
  replace oP2 := oP2.keep h19
  replace oQ2 := oQ2.keep h19
  replace oH := oH.keep h19
  go_wp2_with fail
  refine (held_ints AG R.length cG 1 _ _ (oG.rowI (marks_wf (by omega) (by omega) (by omega))) (by omega) (by omega) (by omega)).mono ?_
  rintro e y20 ⟨rfl, rfl⟩
  go_wp2
  go_ret
  exact ⟨rfl, b19⟩

set_option maxRecDepth 100000 in
theorem lifted (os : Os) (started : os.Started) (H : Type) (enc : TypeId × Value → H) :
    ReturnsInHanded {} Try.checked os 8 .any (Rows.fnExactLackOfSpec.pre6 enc Try.prog Try.f8 Rows.fnExactLackOfRow.domain false) (Rows.fnExactLackOfSpec.post enc Try.prog Try.f8 false true false false) := by
  refine returnsInHanded_of_change (C := Try.checked) own started (by kernel_rfl) Try.func8
    (ChangeSpec.witness6 (enc := enc) (C := Try.checked) false ⟨#[], #[.slice none 0 0, .slice none 0 0], []⟩ 8 (by kernel_rfl) (by kernel_rfl) (by kernel_rfl) (by kernel_rfl)) ?_
  intro W base args ds gs before hval0 hW hcnd _
  have hval : ∀ (j : Nat) t v, Try.f8.params[j]? = some t → args[j]? = some v → Value.okWide Try.prog W .any base t v := hval0
  have hW' := hW
  obtain ⟨p, q, hA0, hV, rfl, hfz, hnd⟩ := hW
  have hA : DataW.TrodAll enc Try.prog W 0 (fun _ => true) true Try.f8.params.toList args.toList ds p := hA0
  rw [Try.params8] at hA hval
  obtain ⟨v0, vs0, d0, ds0, p0, q0, hargs, rfl, rfl, h0, r0⟩ := trodAll_cons hA
  obtain ⟨v1, vs1, d1, ds1, p1, q1, rfl, rfl, rfl, h1, r1⟩ := trodAll_cons r0
  obtain ⟨rfl, rfl, rfl⟩ := trodAll_nil r1
  obtain rfl : args = #[v0, v1] := by cases args; simp_all
  obtain ⟨rfl, rfl⟩ := trodVars_none hV
  have k0 := h0
  have lt0 : ∀ x ∈ p0, x.block < W.heap.size := by obtain ⟨m, hm⟩ := k0; exact DataW.trod_lt m _ _ _ hm
  have k1 := h1
  have lt1 : ∀ x ∈ p1, x.block < W.heap.size := by obtain ⟨m, hm⟩ := k1; exact DataW.trod_lt m _ _ _ hm
  obtain ⟨a0, l0, c0, rfl⟩ := okWide_slice Try.underlying22 (hval 0 22 v0 rfl rfl)
  obtain ⟨z0, w0⟩ := open_rowI Try.underlying22 Try.underlying3 (by kernel_rfl) (h0)
  obtain ⟨a1, l1, c1, rfl⟩ := okWide_slice Try.underlying22 (hval 1 22 v1 rfl rfl)
  obtain ⟨z1, w1⟩ := open_rowI Try.underlying22 Try.underlying3 (by kernel_rfl) (h1)
  clear hA0 hval0
  refine (walk a0 l0 c0 z0 a1 l1 c1 z1 W w0 w1).mono fun e W' ⟨he, bel⟩ => ?_
  subst he
  exact ⟨_, rfl, _, _, _, [], _, [], hW', trodAll_mk1 (shut_bool Try.underlying4 _), (trodAll_cons_mk (Below.trod laidOut (by kernel_rfl) (of_decide_eq_true (by kernel_rfl)) k0 bel lt0) (trodAll_cons_mk (Below.trod laidOut (by kernel_rfl) (of_decide_eq_true (by kernel_rfl)) k1 bel lt1) trodAll_mk0)), rfl, bel.frame _, fun h => by cases h⟩

theorem over : Rows.fnExactLackOfRow.holds Try.pinned (OpenSpec.ofChange Rows.fnExactLackOfSpec) :=
  OpenClaim.holds_of_wide 8 Try.f8 rfl rfl rfl rfl rfl rfl rfl ⟨rfl, rfl, rfl, rfl, rfl⟩ rfl rfl rfl rfl rfl (by kernel_rfl) Try.func8 (by kernel_rfl)
    (of_decide_eq_true (by kernel_rfl)) (by unfold Func.isWrapper; first | (rw [if_pos (by decide +kernel)]; kernel_rfl) | (rw [if_neg (by decide +kernel)]; exact ⟨rfl, rfl⟩))
    (fun os started H enc _ => lifted os started H enc)

/-- The statement. -/
theorem proved : Rows.FnExactLackOfSaid := over
#print axioms proved
end Go.Proofs.Ythfhbcgnninlkaa.fnExactLackOf
