/-
  The law FnExactGraceNeeded: for every input the Go function returns true, and each argument reads afterwards as it read before.
  Conditions: none beyond the row's own.
-/
import Derived.Test.YthfhbcgnninlkaaGrace
import Derived.ChangeOld
import Derived.Carry
namespace Go.Proofs.Ythfhbcgnninlkaa.fnExactGraceNeeded
open Go.ChangeShapes Go.WideShapes Go.ChangeAt Go.RowKit Go.Joins
open Go.ChangeMaps (open_string shut_string)
set_option linter.unusedVariables false

theorem own : ownKnob Try.prog.godebug = none := by kernel_rfl
theorem laidOut : laidOutB Try.prog = true := by kernel_rfl

set_option maxHeartbeats 4000000 in
theorem walk (a0 : Option Addr) (l0 c0 : Nat) (f0 : Nat → Nat → Int) (a1 : Int) (a2 : Int) (a3 : Int) (w : World) (w0 : RowS 4 w w.heap.size a0 l0 c0 f0) (w1 : (Lit.int .i64 a1).wf = true) (w2 : (Lit.int .i64 a2).wf = true) (w3 : (Lit.int .i64 a3).wf = true) :
    Calls Try.prog 12 #[.slice a0 l0 c0, .int .i64 a1, .int .i64 a2, .int .i64 a3] w fun e w' => e = .returned (.bool true) ∧ Below w.heap.size w w' := by
  clear w1 w2 w3
  have hcap := w0.cap
  unfold maxLen at hcap
  have wp := w0.rowP
  have HWf : Hid (∀ i, i < l0 → ∀ j, j < 4 → (Lit.int .i64 (f0 i j)).wf = true) := Lib.hid fun i _ j _ => w0.wf i j
  rcases (by omega : l0 ≤ 1048576 ∨ 1048576 < l0) with q | q
  rotate_left
  · go_enter Try.func12, Try.ntmps12
    go_wp2_with fail
    refine (sz_parcels a0 l0 c0 1048576 w (by omega) (by omega) (by omega)).mono ?_
    rintro e w' ⟨rfl, rfl⟩
    rw [if_pos (by omega)]
    go_wp2
    go_ret
    exact ⟨rfl, Below.refl _ _⟩
  have b0 : Below w.heap.size w w := Below.refl _ _
  go_enter Try.func12, Try.ntmps12
  go_wp2_with fail
  refine (sz_parcels a0 l0 c0 1048576 w (by omega) (by omega) (by omega)).mono ?_
  rintro e w' ⟨rfl, rfl⟩
  rw [if_neg (by omega)]
  go_wp2_with fail
  refine (to_parcels a0 l0 c0 f0 w.heap.size _ (wp.below b0) b0.size q).mono ?_
  rintro e x1 ⟨rfl, oP, h1⟩
  have b1 : Below w.heap.size w x1 := b0.trans (h1.mono (by have := b0.size; omega))
  go_wp2_with fail
  refine (spec_grace (some ⟨w.heap.size, 0, none⟩) l0 l0 f0 a1 a2 a3 _ _ (oP.rowP HWf.out) (Nat.le_refl _) q).mono ?_
  rintro e x2 ⟨rfl, h2⟩
  have b2 : Below w.heap.size w x2 := b1.trans (h2.mono (by have := b1.size; omega))
  replace oP := oP.keep h2
  go_wp2_with fail
  refine (to_parcels a0 l0 c0 f0 w.heap.size _ (wp.below b2) b2.size q).mono ?_
  rintro e x3 ⟨rfl, oX, h3⟩
  have b3 : Below w.heap.size w x3 := b2.trans (h3.mono (by have := b2.size; omega))
  replace oP := oP.keep h3
  go_wp2_with fail
  refine (impl_grace (some ⟨x2.heap.size, 0, none⟩) l0 l0 f0 a1 a2 a3 _ _ (oX.rowP HWf.out) (Nat.le_refl _) q).mono ?_
  rintro e x4 ⟨rfl, h4⟩
  have b4 : Below w.heap.size w x4 := b3.trans (h4.mono (by have := b3.size; omega))
  replace oP := oP.keep h4
  replace oX := oX.keep h4
  go_wp2_with fail
  refine (to_parcels a0 l0 c0 f0 w.heap.size _ (wp.below b4) b4.size q).mono ?_
  rintro e x5 ⟨rfl, oY, h5⟩
  have b5 : Below w.heap.size w x5 := b4.trans (h5.mono (by have := b4.size; omega))
  replace oP := oP.keep h5
  replace oX := oX.keep h5
  go_wp2_with fail
  refine (eq_parcels (some ⟨x2.heap.size, 0, none⟩) (some ⟨x4.heap.size, 0, none⟩) l0 l0 l0 f0 _ _ _ (oX.rowP HWf.out) (oY.rowP HWf.out) (Nat.le_refl _) (Nat.le_refl _)).mono ?_
  rintro e x6 ⟨rfl, h6⟩
  have b6 : Below w.heap.size w x6 := b5.trans (h6.mono (by have := b5.size; omega))
  replace oP := oP.keep h6
  replace oX := oX.keep h6
  replace oY := oY.keep h6
  go_wp2
  go_ret
  exact ⟨rfl, b6⟩

set_option maxRecDepth 100000 in
theorem lifted (os : Os) (started : os.Started) (H : Type) (enc : TypeId × Value → H) :
    ReturnsInHanded {} Try.checked os 12 .any (Rows.fnExactGraceNeededSpec.pre6 enc Try.prog Try.f12 Rows.fnExactGraceNeededRow.domain false) (Rows.fnExactGraceNeededSpec.post enc Try.prog Try.f12 false true false false) := by
  refine returnsInHanded_of_change (C := Try.checked) own started (by kernel_rfl) Try.func12
    (ChangeSpec.witness6 (enc := enc) (C := Try.checked) false ⟨#[], #[.slice none 0 0, .int .i64 0, .int .i64 0, .int .i64 0], []⟩ 8 (by kernel_rfl) (by kernel_rfl) (by kernel_rfl) (by kernel_rfl)) ?_
  intro W base args ds gs before hval0 hW hcnd _
  have hval : ∀ (j : Nat) t v, Try.f12.params[j]? = some t → args[j]? = some v → Value.okWide Try.prog W .any base t v := hval0
  have hW' := hW
  obtain ⟨p, q, hA0, hV, rfl, hfz, hnd⟩ := hW
  have hA : DataW.TrodAll enc Try.prog W 0 (fun _ => true) true Try.f12.params.toList args.toList ds p := hA0
  rw [Try.params12] at hA hval
  obtain ⟨v0, vs0, d0, ds0, p0, q0, hargs, rfl, rfl, h0, r0⟩ := trodAll_cons hA
  obtain ⟨v1, vs1, d1, ds1, p1, q1, rfl, rfl, rfl, h1, r1⟩ := trodAll_cons r0
  obtain ⟨v2, vs2, d2, ds2, p2, q2, rfl, rfl, rfl, h2, r2⟩ := trodAll_cons r1
  obtain ⟨v3, vs3, d3, ds3, p3, q3, rfl, rfl, rfl, h3, r3⟩ := trodAll_cons r2
  obtain ⟨rfl, rfl, rfl⟩ := trodAll_nil r3
  obtain rfl : args = #[v0, v1, v2, v3] := by cases args; simp_all
  obtain ⟨rfl, rfl⟩ := trodVars_none hV
  have k0 := h0
  have lt0 : ∀ x ∈ p0, x.block < W.heap.size := by obtain ⟨m, hm⟩ := k0; exact DataW.trod_lt m _ _ _ hm
  have k1 := h1
  have lt1 : ∀ x ∈ p1, x.block < W.heap.size := by obtain ⟨m, hm⟩ := k1; exact DataW.trod_lt m _ _ _ hm
  have k2 := h2
  have lt2 : ∀ x ∈ p2, x.block < W.heap.size := by obtain ⟨m, hm⟩ := k2; exact DataW.trod_lt m _ _ _ hm
  have k3 := h3
  have lt3 : ∀ x ∈ p3, x.block < W.heap.size := by obtain ⟨m, hm⟩ := k3; exact DataW.trod_lt m _ _ _ hm
  obtain ⟨a0, l0, c0, rfl⟩ := okWide_slice Try.underlying45 (hval 0 45 v0 rfl rfl)
  obtain ⟨f0, w0⟩ := open_rowS (m := 4) Try.underlying45 Try.underlying40 (by kernel_rfl) rfl (by kernel_rfl) (by kernel_rfl) (by decide) (h0)
  obtain ⟨a1, rfl, rfl, rfl, w1⟩ := open_int Try.underlying3 (hval 1 3 v1 rfl rfl) h1
  obtain ⟨a2, rfl, rfl, rfl, w2⟩ := open_int Try.underlying3 (hval 2 3 v2 rfl rfl) h2
  obtain ⟨a3, rfl, rfl, rfl, w3⟩ := open_int Try.underlying3 (hval 3 3 v3 rfl rfl) h3
  clear hA0 hval0
  refine (walk a0 l0 c0 f0 a1 a2 a3 W w0 w1 w2 w3).mono fun e W' ⟨he, bel⟩ => ?_
  subst he
  exact ⟨_, rfl, _, _, _, [], _, [], hW', trodAll_mk1 (shut_bool Try.underlying4 _), (trodAll_cons_mk (Below.trod laidOut (by kernel_rfl) (of_decide_eq_true (by kernel_rfl)) k0 bel lt0) (trodAll_cons_mk (Below.trod laidOut (by kernel_rfl) (of_decide_eq_true (by kernel_rfl)) k1 bel lt1) (trodAll_cons_mk (Below.trod laidOut (by kernel_rfl) (of_decide_eq_true (by kernel_rfl)) k2 bel lt2) (trodAll_cons_mk (Below.trod laidOut (by kernel_rfl) (of_decide_eq_true (by kernel_rfl)) k3 bel lt3) trodAll_mk0)))), rfl, bel.frame _, fun h => by cases h⟩

theorem over : Rows.fnExactGraceNeededRow.holds Try.pinned (OpenSpec.ofChange Rows.fnExactGraceNeededSpec) :=
  OpenClaim.holds_of_wide 12 Try.f12 rfl rfl rfl rfl rfl rfl rfl ⟨rfl, rfl, rfl, rfl, rfl⟩ rfl rfl rfl rfl rfl (by kernel_rfl) Try.func12 (by kernel_rfl)
    (of_decide_eq_true (by kernel_rfl)) (by unfold Func.isWrapper; first | (rw [if_pos (by decide +kernel)]; kernel_rfl) | (rw [if_neg (by decide +kernel)]; exact ⟨rfl, rfl⟩))
    (fun os started H enc _ => lifted os started H enc)

/-- The statement. -/
theorem proved : Rows.FnExactGraceNeededSaid := over
#print axioms proved
end Go.Proofs.Ythfhbcgnninlkaa.fnExactGraceNeeded
