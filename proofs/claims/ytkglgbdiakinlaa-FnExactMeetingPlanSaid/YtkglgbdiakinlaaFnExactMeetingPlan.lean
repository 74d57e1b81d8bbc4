/-
  The law FnExactMeetingPlan: for every input the Go function returns true, and each argument reads afterwards as it read before.
  Conditions: none beyond the row's own.
-/
import Derived.Test.YtkglgbdiakinlaaMeet
import Derived.ChangeOld
import Derived.Carry
namespace Go.Proofs.Ytkglgbdiakinlaa.fnExactMeetingPlan
open Go.ChangeShapes Go.WideShapes Go.ChangeAt Go.RowKit Go.Joins
open Go.ChangeMaps (open_string shut_string)
set_option linter.unusedVariables false

theorem own : ownKnob Try.prog.godebug = none := by kernel_rfl
theorem laidOut : laidOutB Try.prog = true := by kernel_rfl

set_option maxHeartbeats 2000000 in
theorem walk (a0 : Int) (w : World) (w0 : (Lit.int .i64 a0).wf = true) :
    Calls Try.prog 4 #[.int .i64 a0] w fun e w' => e = .returned (.bool true) ∧ Below w.heap.size w w' := by
  clear w0
  have q0 := meet_total a0
  have b0 : Below w.heap.size w w := Below.refl _ _
  go_enter Try.func4, Try.ntmps4
  go_wp2_with fail
  refine (spec_meet a0 _).mono ?_
  rintro e x1 ⟨AW, cW, rfl, oW, h1⟩
  have b1 : Below w.heap.size w x1 := b0.trans (h1.mono b0.size)
  have u1 := h1.size
  go_wp2_with fail
  refine (impl_meet a0 _).mono ?_
  rintro e x2 ⟨AG, cG, rfl, oG, h2⟩
  have b2 : Below w.heap.size w x2 := b1.trans (h2.mono b1.size)
  have u2 := h2.size
  replace oW := oW.keep h2
  go_wp2_with fail
  refine (eq_rows AG AW (meetN a0) cG cW (fun j => meetRow a0.toNat j) (fun j => meetRow a0.toNat j) _ _ _ (oG.rowII ((fun _ => meet_wf) a0)) (oW.rowII ((fun _ => meet_wf) a0)) (fun _ _ => rfl) (Nat.le_refl _) (Nat.le_refl _)).mono ?_
  rintro e x3 ⟨rfl, h3⟩
  have b3 : Below w.heap.size w x3 := b2.trans (h3.mono b2.size)
  have u3 := h3.size
  replace oW := oW.keep h3
  replace oG := oG.keep h3
  go_wp2_with fail
  refine (mark_rows AG (meetN a0) cG (fun j => meetRow a0.toNat j) _ _ 1 _ oG q0 (by omega) (by omega)).mono ?_
  rintro e x4 ⟨rfl, pG, n4⟩
  have b4 : Below w.heap.size w x4 := below_only b3 n4 b3.size (by omega)
  have u4 := n4.size
  replace oW := oW.only n4 (by omega)
  clear oG
  have oG := pG
  clear pG
  go_wp2_with fail
  refine (held_rows AG (meetN a0) cG (fun j => meetRow a0.toNat j) 1 _ _ (oG.rowII (markRows_wf q0 (by omega) (by omega))) q0 (by omega) (by omega)).mono ?_
  rintro e y5 ⟨rfl, rfl⟩
  go_wp2_with fail
  refine (impl_meet a0 _).mono ?_
  rintro e x5 ⟨AH, cH, rfl, oH, h5⟩
  have b5 : Below w.heap.size w x5 := b4.trans (h5.mono b4.size)
  have u5 := h5.size
  replace oW := oW.keep h5
  replace oG := oG.keep h5
  go_wp2_with fail
  refine (eq_rows AH AW (meetN a0) cH cW (fun j => meetRow a0.toNat j) (fun j => meetRow a0.toNat j) _ _ _ (oH.rowII ((fun _ => meet_wf) a0)) (oW.rowII ((fun _ => meet_wf) a0)) (fun _ _ => rfl) (Nat.le_refl _) (Nat.le_refl _)).mono ?_
  rintro e x6 ⟨rfl, h6⟩
  have b6 : Below w.heap.size w x6 := b5.trans (h6.mono b5.size)
  have u6 := h6.size
  replace oW := oW.keep h6
  replace oG := oG.keep h6
  replace oH := oH.keep h6
  go_wp2_with fail
  refine (held_rows AG (meetN a0) cG (fun j => meetRow a0.toNat j) 1 _ _ (oG.rowII (markRows_wf q0 (by omega) (by omega))) q0 (by omega) (by omega)).mono ?_
  rintro e y7 ⟨rfl, rfl⟩
  go_wp2
  go_ret
  exact ⟨rfl, b6⟩

set_option maxRecDepth 100000 in
theorem lifted (os : Os) (started : os.Started) (H : Type) (enc : TypeId × Value → H) :
    ReturnsInHanded {} Try.checked os 4 .any (Rows.fnExactMeetingPlanSpec.pre6 enc Try.prog Try.f4 Rows.fnExactMeetingPlanRow.domain false) (Rows.fnExactMeetingPlanSpec.post enc Try.prog Try.f4 false true false false) := by
  refine returnsInHanded_of_change (C := Try.checked) own started (by kernel_rfl) Try.func4
    (ChangeSpec.witness6 (enc := enc) (C := Try.checked) false ⟨#[], #[.int .i64 0], []⟩ 8 (by kernel_rfl) (by kernel_rfl) (by kernel_rfl) (by kernel_rfl)) ?_
  intro W base args ds gs before hval0 hW hcnd _
  have hval : ∀ (j : Nat) t v, Try.f4.params[j]? = some t → args[j]? = some v → Value.okWide Try.prog W .any base t v := hval0
  have hW' := hW
  obtain ⟨p, q, hA0, hV, rfl, hfz, hnd⟩ := hW
  have hA : DataW.TrodAll enc Try.prog W 0 (fun _ => true) true Try.f4.params.toList args.toList ds p := hA0
  rw [Try.params4] at hA hval
  obtain ⟨v0, vs0, d0, ds0, p0, q0, hargs, rfl, rfl, h0, r0⟩ := trodAll_cons hA
  obtain ⟨rfl, rfl, rfl⟩ := trodAll_nil r0
  obtain rfl : args = #[v0] := by cases args; simp_all
  obtain ⟨rfl, rfl⟩ := trodVars_none hV
  have k0 := h0
  have lt0 : ∀ x ∈ p0, x.block < W.heap.size := by obtain ⟨m, hm⟩ := k0; exact DataW.trod_lt m _ _ _ hm
  obtain ⟨a0, rfl, rfl, rfl, w0⟩ := open_int Try.underlying3 (hval 0 3 v0 rfl rfl) h0
  clear hA0 hval0
  refine (walk a0 W w0).mono fun e W' ⟨he, bel⟩ => ?_
  subst he
  exact ⟨_, rfl, _, _, _, [], _, [], hW', trodAll_mk1 (shut_bool Try.underlying4 _), (trodAll_cons_mk (Below.trod laidOut (by kernel_rfl) (of_decide_eq_true (by kernel_rfl)) k0 bel lt0) trodAll_mk0), rfl, bel.frame _, fun h => by cases h⟩

theorem over : Rows.fnExactMeetingPlanRow.holds Try.pinned (OpenSpec.ofChange Rows.fnExactMeetingPlanSpec) :=
  OpenClaim.holds_of_wide 4 Try.f4 rfl rfl rfl rfl rfl rfl rfl ⟨rfl, rfl, rfl, rfl, rfl⟩ rfl rfl rfl rfl rfl (by kernel_rfl) Try.func4 (by kernel_rfl)
    (of_decide_eq_true (by kernel_rfl)) (by unfold Func.isWrapper; first | (rw [if_pos (by decide +kernel)]; kernel_rfl) | (rw [if_neg (by decide +kernel)]; exact ⟨rfl, rfl⟩))
    (fun os started H enc _ => lifted os started H enc)

/-- The statement. -/
theorem proved : Rows.FnExactMeetingPlanSaid := over
#print axioms proved
end Go.Proofs.Ytkglgbdiakinlaa.fnExactMeetingPlan
