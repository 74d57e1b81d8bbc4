/-
  The law FnExactDropMember: for every input the Go function returns true, and each argument reads afterwards as it read before.
  Conditions: none beyond the row's own.
-/
import Derived.Test.YtkglgbdiakinlaaDrop
import Derived.ChangeOld
import Derived.Carry
namespace Go.Proofs.Ytkglgbdiakinlaa.fnExactDropMember
open Go.ChangeShapes Go.WideShapes Go.ChangeAt Go.RowKit Go.Joins
open Go.ChangeMaps (open_string shut_string)
set_option linter.unusedVariables false

theorem own : ownKnob Try.prog.godebug = none := by kernel_rfl
theorem laidOut : laidOutB Try.prog = true := by kernel_rfl

set_option maxHeartbeats 4000000 in
theorem walk (a0 : Int) (a1 : Option Addr) (l1 c1 : Nat) (z1 : Nat → List Int) (a2 : Int) (w : World) (w0 : (Lit.int .i64 a0).wf = true) (w1 : RowII w w.heap.size a1 l1 c1 z1) (w2 : (Lit.int .i64 a2).wf = true) :
    Calls Try.prog 13 #[.int .i64 a0, .slice a1 l1 c1, .int .i64 a2] w fun e w' => e = .returned (.bool true) ∧ Below w.heap.size w w' := by
  rcases (by omega : l1 + total z1 l1 ≤ 1048576 ∨ 1048576 < l1 + total z1 l1) with q0 | q0
  rotate_left
  · go_enter Try.func13, Try.ntmps13
    go_wp2_with fail
    refine (sz_rows_no a1 l1 c1 z1 _ _ w1 q0).mono ?_
    rintro e w' ⟨rfl, rfl⟩
    go_wp2
    go_ret
    exact ⟨rfl, Below.refl _ _⟩
  obtain ⟨M, hM0⟩ : ∃ M, M = dropN a0 z1 l1 a2 := ⟨_, rfl⟩
  obtain ⟨b, hb0⟩ : ∃ b, b = dropOk a0 z1 l1 a2 := ⟨_, rfl⟩
  have hM := Lib.hid hM0
  have hb := Lib.hid hb0
  have q1 := drop_total a0 z1 l1 a2 q0
  rw [← hM0] at q1
  have hMl : M ≤ l1 := by rw [hM0]; unfold dropN; split <;> omega
  have HW := Lib.hid (fun i (hi : i < M) => dropRow_wf (zs := z1 i) (rowII_wf w1 (by omega)) w2)
  have hbb : (b != b) = false := by simp
  clear hM0 hb0
  have b0 : Below w.heap.size w w := Below.refl _ _
  go_enter Try.func13, Try.ntmps13
  go_wp2_with fail
  refine (sz_rows a1 l1 c1 z1 _ _ w1 q0).mono ?_
  rintro e y1 ⟨rfl, rfl⟩
  go_wp2_with fail
  refine (to_rows a1 l1 c1 z1 w.heap.size _ (w1.below b0) b0.size q0).mono ?_
  rintro e x1 ⟨rfl, oP, h1⟩
  have b1 : Below w.heap.size w x1 := b0.trans (h1.mono b0.size)
  have u1 := h1.size
  go_wp2_with fail
  refine (spec_drop a0 (some ⟨w.heap.size, 0, none⟩) l1 l1 z1 a2 M b _ _ (oP.rowII (fun i hi => rowII_wf w1 hi)) (Nat.le_refl _) hM hb).mono ?_
  rintro e x2 ⟨AW, cW, rfl, oW, h2⟩
  have b2 : Below w.heap.size w x2 := b1.trans (h2.mono b1.size)
  have u2 := h2.size
  replace oP := oP.keep h2
  go_wp2_with fail
  refine (to_rows a1 l1 c1 z1 w.heap.size _ (w1.below b2) b2.size q0).mono ?_
  rintro e x3 ⟨rfl, oX, h3⟩
  have b3 : Below w.heap.size w x3 := b2.trans (h3.mono b2.size)
  have u3 := h3.size
  replace oP := oP.keep h3
  replace oW := oW.keep h3
  go_wp2_with fail
  refine (impl_drop a0 (some ⟨x2.heap.size, 0, none⟩) l1 l1 z1 a2 M b _ _ (oX.rowII (fun i hi => rowII_wf w1 hi)) (Nat.le_refl _) hM hb).mono ?_
  rintro e x4 ⟨AG, cG, rfl, oG, h4⟩
  have b4 : Below w.heap.size w x4 := b3.trans (h4.mono b3.size)
  have u4 := h4.size
  replace oP := oP.keep h4
  replace oW := oW.keep h4
  replace oX := oX.keep h4
  go_wp2_with fail
  refine (eq_rows AG AW M cG cW (dropZ z1 a2) (dropZ z1 a2) _ _ _ (oG.rowII HW.out) (oW.rowII HW.out) (fun _ _ => rfl) (Nat.le_refl _) (Nat.le_refl _)).mono ?_
  rintro e x5 ⟨rfl, h5⟩
  have b5 : Below w.heap.size w x5 := b4.trans (h5.mono b4.size)
  have u5 := h5.size
  replace oP := oP.keep h5
  replace oW := oW.keep h5
  replace oX := oX.keep h5
  replace oG := oG.keep h5
  go_wp2_with fail
  refine (to_rows a1 l1 c1 z1 w.heap.size _ (w1.below b5) b5.size q0).mono ?_
  rintro e x6 ⟨rfl, oY, h6⟩
  have b6 : Below w.heap.size w x6 := b5.trans (h6.mono b5.size)
  have u6 := h6.size
  replace oP := oP.keep h6
  replace oW := oW.keep h6
  replace oX := oX.keep h6
  replace oG := oG.keep h6
  go_wp2_with fail
  refine (eq_rows (some ⟨x2.heap.size, 0, none⟩) (some ⟨x5.heap.size, 0, none⟩) l1 l1 l1 z1 z1 _ _ _ (oX.rowII (fun i hi => rowII_wf w1 hi)) (oY.rowII (fun i hi => rowII_wf w1 hi)) (fun _ _ => rfl) (Nat.le_refl _) (Nat.le_refl _)).mono ?_
  rintro e x7 ⟨rfl, h7⟩
  have b7 : Below w.heap.size w x7 := b6.trans (h7.mono b6.size)
  have u7 := h7.size
  replace oP := oP.keep h7
  replace oW := oW.keep h7
  replace oX := oX.keep h7
  replace oG := oG.keep h7
  replace oY := oY.keep h7
  go_wp2_with fail
  refine (mark_rows (some ⟨x2.heap.size, 0, none⟩) l1 l1 z1 _ _ 1 _ oX q0 (by omega) (by omega)).mono ?_
  rintro e x8 ⟨rfl, pX, n8⟩
  have b8 : Below w.heap.size w x8 := below_only b7 n8 b7.size (by omega)
  have u8 := n8.size
  replace oP := oP.only n8 (by omega)
  replace oW := oW.only n8 (by omega)
  replace oG := oG.only n8 (by omega)
  replace oY := oY.only n8 (by omega)
  clear oX
  have oX := pX
  clear pX
  go_wp2_with fail
  refine (eq_rows AG AW M cG cW (dropZ z1 a2) (dropZ z1 a2) _ _ _ (oG.rowII HW.out) (oW.rowII HW.out) (fun _ _ => rfl) (Nat.le_refl _) (Nat.le_refl _)).mono ?_
  rintro e x9 ⟨rfl, h9⟩
  have b9 : Below w.heap.size w x9 := b8.trans (h9.mono b8.size)
  have u9 := h9.size
  replace oP := oP.keep h9
  replace oW := oW.keep h9
  replace oX := oX.keep h9
  replace oG := oG.keep h9
  replace oY := oY.keep h9
  go_wp2_with fail
  refine (mark_rows AG M cG (dropZ z1 a2) _ _ 1 _ oG q1 (by omega) (by omega)).mono ?_
  rintro e x10 ⟨rfl, pG, n10⟩
  have b10 : Below w.heap.size w x10 := below_only b9 n10 b9.size (by omega)
  have u10 := n10.size
  replace oP := oP.only n10 (by omega)
  replace oW := oW.only n10 (by omega)
  replace oX := oX.only n10 (by omega)
  replace oY := oY.only n10 (by omega)
  clear oG
  have oG := pG
  clear pG
  go_wp2_with fail
  refine (held_rows AG M cG (dropZ z1 a2) 1 _ _ (oG.rowII (markRows_wf q1 (by omega) (by omega))) q1 (by omega) (by omega)).mono ?_
  rintro e y11 ⟨rfl, rfl⟩
  go_wp2_with fail
  refine (to_rows a1 l1 c1 z1 w.heap.size _ (w1.below b10) b10.size q0).mono ?_
  rintro e x11 ⟨rfl, oP2, h11⟩
  have b11 : Below w.heap.size w x11 := b10.trans (h11.mono b10.size)
  have u11 := h11.size
  replace oP := oP.keep h11
  replace oW := oW.keep h11
  replace oX := oX.keep h11
  replace oG := oG.keep h11
  replace oY := oY.keep h11
  go_wp2_with fail
  refine (impl_drop a0 (some ⟨x10.heap.size, 0, none⟩) l1 l1 z1 a2 M b _ _ (oP2.rowII (fun i hi => rowII_wf w1 hi)) (Nat.le_refl _) hM hb).mono ?_
  rintro e x12 ⟨AH, cH, rfl, oH, h12⟩
  have b12 : Below w.heap.size w x12 := b11.trans (h12.mono b11.size)
  have u12 := h12.size
  replace oP := oP.keep h12
  replace oW := oW.keep h12
  replace oX := oX.keep h12
  replace oG := oG.keep h12
  replace oY := oY.keep h12
  replace oP2 := oP2.keep h12
  go_wp2_with fail
  refine (eq_rows AH AW M cH cW (dropZ z1 a2) (dropZ z1 a2) _ _ _ (oH.rowII HW.out) (oW.rowII HW.out) (fun _ _ => rfl) (Nat.le_refl _) (Nat.le_refl _)).mono ?_
  rintro e x13 ⟨rfl, h13⟩
  have b13 : Below w.heap.size w x13 := b12.trans (h13.mono b12.size)
  have u13 := h13.size
  replace oP := oP.keep h13
  replace oW := oW.keep h13
  replace oX := oX.keep h13
  replace oG := oG.keep h13
  replace oY := oY.keep h13
  replace oP2 := oP2.keep h13
  replace oH := oH.keep h13
  go_wp2_with fail
  refine (held_rows AG M cG (dropZ z1 a2) 1 _ _ (oG.rowII (markRows_wf q1 (by omega) (by omega))) q1 (by omega) (by omega)).mono ?_
  rintro e y14 ⟨rfl, rfl⟩
  go_wp2
  go_ret
  exact ⟨rfl, b13⟩

set_option maxRecDepth 100000 in
theorem lifted (os : Os) (started : os.Started) (H : Type) (enc : TypeId × Value → H) :
    ReturnsInHanded {} Try.checked os 13 .any (Rows.fnExactDropMemberSpec.pre6 enc Try.prog Try.f13 Rows.fnExactDropMemberRow.domain false) (Rows.fnExactDropMemberSpec.post enc Try.prog Try.f13 false true false false) := by
  refine returnsInHanded_of_change (C := Try.checked) own started (by kernel_rfl) Try.func13
    (ChangeSpec.witness6 (enc := enc) (C := Try.checked) false ⟨#[], #[.int .i64 0, .slice none 0 0, .int .i64 0], []⟩ 8 (by kernel_rfl) (by kernel_rfl) (by kernel_rfl) (by kernel_rfl)) ?_
  intro W base args ds gs before hval0 hW hcnd _
  have hval : ∀ (j : Nat) t v, Try.f13.params[j]? = some t → args[j]? = some v → Value.okWide Try.prog W .any base t v := hval0
  have hW' := hW
  obtain ⟨p, q, hA0, hV, rfl, hfz, hnd⟩ := hW
  have hA : DataW.TrodAll enc Try.prog W 0 (fun _ => true) true Try.f13.params.toList args.toList ds p := hA0
  rw [Try.params13] at hA hval
  obtain ⟨v0, vs0, d0, ds0, p0, q0, hargs, rfl, rfl, h0, r0⟩ := trodAll_cons hA
  obtain ⟨v1, vs1, d1, ds1, p1, q1, rfl, rfl, rfl, h1, r1⟩ := trodAll_cons r0
  obtain ⟨v2, vs2, d2, ds2, p2, q2, rfl, rfl, rfl, h2, r2⟩ := trodAll_cons r1
  obtain ⟨rfl, rfl, rfl⟩ := trodAll_nil r2
  obtain rfl : args = #[v0, v1, v2] := by cases args; simp_all
  obtain ⟨rfl, rfl⟩ := trodVars_none hV
  have k0 := h0
  have lt0 : ∀ x ∈ p0, x.block < W.heap.size := by obtain ⟨m, hm⟩ := k0; exact DataW.trod_lt m _ _ _ hm
  have k1 := h1
  have lt1 : ∀ x ∈ p1, x.block < W.heap.size := by obtain ⟨m, hm⟩ := k1; exact DataW.trod_lt m _ _ _ hm
  have k2 := h2
  have lt2 : ∀ x ∈ p2, x.block < W.heap.size := by obtain ⟨m, hm⟩ := k2; exact DataW.trod_lt m _ _ _ hm
  obtain ⟨a0, rfl, rfl, rfl, w0⟩ := open_int Try.underlying3 (hval 0 3 v0 rfl rfl) h0
  obtain ⟨a1, l1, c1, rfl⟩ := okWide_slice Try.underlying22 (hval 1 22 v1 rfl rfl)
  obtain ⟨z1, w1⟩ := open_rowII Try.underlying22 Try.underlying27 Try.underlying3 (by kernel_rfl) (by kernel_rfl) (h1)
  obtain ⟨a2, rfl, rfl, rfl, w2⟩ := open_int Try.underlying3 (hval 2 3 v2 rfl rfl) h2
  clear hA0 hval0
  refine (walk a0 a1 l1 c1 z1 a2 W w0 w1 w2).mono fun e W' ⟨he, bel⟩ => ?_
  subst he
  exact ⟨_, rfl, _, _, _, [], _, [], hW', trodAll_mk1 (shut_bool Try.underlying4 _), (trodAll_cons_mk (Below.trod laidOut (by kernel_rfl) (of_decide_eq_true (by kernel_rfl)) k0 bel lt0) (trodAll_cons_mk (Below.trod laidOut (by kernel_rfl) (of_decide_eq_true (by kernel_rfl)) k1 bel lt1) (trodAll_cons_mk (Below.trod laidOut (by kernel_rfl) (of_decide_eq_true (by kernel_rfl)) k2 bel lt2) trodAll_mk0))), rfl, bel.frame _, fun h => by cases h⟩

theorem over : Rows.fnExactDropMemberRow.holds Try.pinned (OpenSpec.ofChange Rows.fnExactDropMemberSpec) :=
  OpenClaim.holds_of_wide 13 Try.f13 rfl rfl rfl rfl rfl rfl rfl ⟨rfl, rfl, rfl, rfl, rfl⟩ rfl rfl rfl rfl rfl (by kernel_rfl) Try.func13 (by kernel_rfl)
    (of_decide_eq_true (by kernel_rfl)) (by unfold Func.isWrapper; first | (rw [if_pos (by decide +kernel)]; kernel_rfl) | (rw [if_neg (by decide +kernel)]; exact ⟨rfl, rfl⟩))
    (fun os started H enc _ => lifted os started H enc)

/-- The statement. -/
theorem proved : Rows.FnExactDropMemberSaid := over
#print axioms proved
end Go.Proofs.Ytkglgbdiakinlaa.fnExactDropMember
