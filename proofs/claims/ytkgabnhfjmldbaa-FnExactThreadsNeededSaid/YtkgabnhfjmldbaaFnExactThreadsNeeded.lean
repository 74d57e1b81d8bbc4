/-
  The law FnExactThreadsNeeded: for every input the Go function returns true, and each argument reads afterwards as it read before.
  Conditions: none beyond the row's own.
-/
import Derived.Test.YtkgabnhfjmldbaaLines
import Derived.Test.YtkgabnhfjmldbaaThr4
import Derived.Test.YtkgabnhfjmldbaaThrU
import Derived.ChangeOld
import Derived.Carry
namespace Go.Proofs.Ytkgabnhfjmldbaa.fnExactThreadsNeeded
open Go.ChangeShapes Go.WideShapes Go.ChangeAt Go.RowKit Go.Joins
open Go.ChangeMaps (open_string shut_string)
set_option linter.unusedVariables false

theorem own : ownKnob Try.prog.godebug = none := by kernel_rfl
theorem laidOut : laidOutB Try.prog = true := by kernel_rfl

set_option maxHeartbeats 4000000 in
theorem walk (a : Int) (a0 : Option Addr) (l0 c0 : Nat) (f0 : Nat → Nat → Int) (w : World) (wa : (Lit.int .i64 a).wf = true) (w0 : RowS 2 w w.heap.size a0 l0 c0 f0) :
    Calls Try.prog 3 #[.int .i64 a, .slice a0 l0 c0] w fun e w' => e = .returned (.bool true) ∧ Below w.heap.size w w' := by
  clear wa
  have hcap := w0.cap
  unfold maxLen at hcap
  have wp := w0.rowP
  have HWf : Hid (∀ i, i < l0 → ∀ j, j < 2 → (Lit.int .i64 (f0 i j)).wf = true) := Lib.hid fun i _ j _ => w0.wf i j
  rcases (by omega : l0 ≤ 1048576 ∨ 1048576 < l0) with q | q
  rotate_left
  · go_enter Try.func3, Try.ntmps3
    go_wp2_with fail
    refine (sz_lines a0 l0 c0 1048576 w (by omega) (by omega) (by omega)).mono ?_
    rintro e w' ⟨rfl, rfl⟩
    rw [if_pos (by omega)]
    go_wp2
    go_ret
    exact ⟨rfl, Below.refl _ _⟩
  have b0 : Below w.heap.size w w := Below.refl _ _
  go_enter Try.func3, Try.ntmps3
  go_wp2_with fail
  refine (sz_lines a0 l0 c0 1048576 w (by omega) (by omega) (by omega)).mono ?_
  rintro e w' ⟨rfl, rfl⟩
  rw [if_neg (by omega)]
  go_wp2_with fail
  refine (to_lines a0 l0 c0 f0 w.heap.size _ (wp.below b0) b0.size q).mono ?_
  rintro e x1 ⟨rfl, oP, h1⟩
  have b1 : Below w.heap.size w x1 := b0.trans (h1.mono (by have := b0.size; omega))
  go_wp2_with fail
  refine (spec_threads a (some ⟨w.heap.size, 0, none⟩) l0 l0 f0 _ _ (oP.rowP HWf.out) (Nat.le_refl _)).mono ?_
  rintro e x2 ⟨rfl, h2⟩
  have b2 : Below w.heap.size w x2 := b1.trans (h2.mono (by have := b1.size; omega))
  replace oP := oP.keep h2
  go_wp2_with fail
  refine (to_lines a0 l0 c0 f0 w.heap.size _ (wp.below b2) b2.size q).mono ?_
  rintro e x3 ⟨rfl, oX, h3⟩
  have b3 : Below w.heap.size w x3 := b2.trans (h3.mono (by have := b2.size; omega))
  replace oP := oP.keep h3
  go_wp2_with fail
  refine (impl_threads a (some ⟨x2.heap.size, 0, none⟩) l0 l0 f0 _ _ (oX.rowP HWf.out) (Nat.le_refl _)).mono ?_
  rintro e x4 ⟨rfl, h4⟩
  have b4 : Below w.heap.size w x4 := b3.trans (h4.mono (by have := b3.size; omega))
  replace oP := oP.keep h4
  replace oX := oX.keep h4
  go_wp2_with fail
  refine (to_lines a0 l0 c0 f0 w.heap.size _ (wp.below b4) b4.size q).mono ?_
  rintro e x5 ⟨rfl, oY, h5⟩
  have b5 : Below w.heap.size w x5 := b4.trans (h5.mono (by have := b4.size; omega))
  replace oP := oP.keep h5
  replace oX := oX.keep h5
  go_wp2_with fail
  refine (eq_lines (some ⟨x2.heap.size, 0, none⟩) (some ⟨x4.heap.size, 0, none⟩) l0 l0 l0 f0 _ _ _ (oX.rowP HWf.out) (oY.rowP HWf.out) (Nat.le_refl _) (Nat.le_refl _)).mono ?_
  rintro e x6 ⟨rfl, h6⟩
  have b6 : Below w.heap.size w x6 := b5.trans (h6.mono (by have := b5.size; omega))
  replace oP := oP.keep h6
  replace oX := oX.keep h6
  replace oY := oY.keep h6
  go_wp2
  go_ret
  exact ⟨rfl, b6⟩

set_option maxRecDepth 100000 in
theorem lifted (os : Os) (started : os.Started) (H : Type) (enc : TypeId × Value → H) :
    ReturnsInHanded {} Try.checked os 3 .any (Rows.fnExactThreadsNeededSpec.pre6 enc Try.prog Try.f3 Rows.fnExactThreadsNeededRow.domain false) (Rows.fnExactThreadsNeededSpec.post enc Try.prog Try.f3 false true false false) := by
  refine returnsInHanded_of_change (C := Try.checked) own started (by kernel_rfl) Try.func3
    (ChangeSpec.witness6 (enc := enc) (C := Try.checked) false ⟨#[], #[.int .i64 0, .slice none 0 0], []⟩ 8 (by kernel_rfl) (by kernel_rfl) (by kernel_rfl) (by kernel_rfl)) ?_
  intro W base args ds gs before hval0 hW hcnd _
  have hval : ∀ (j : Nat) t v, Try.f3.params[j]? = some t → args[j]? = some v → Value.okWide Try.prog W .any base t v := hval0
  have hW' := hW
  obtain ⟨p, q, hA0, hV, rfl, hfz, hnd⟩ := hW
  have hA : DataW.TrodAll enc Try.prog W 0 (fun _ => true) true Try.f3.params.toList args.toList ds p := hA0
  rw [Try.params3] at hA hval
  obtain ⟨v0, vs0, d0, ds0, p0, q0, hargs, rfl, rfl, h0, r0⟩ := trodAll_cons hA
  obtain ⟨v1, vs1, d1, ds1, p1, q1, rfl, rfl, rfl, h1, r1⟩ := trodAll_cons r0
  obtain ⟨rfl, rfl, rfl⟩ := trodAll_nil r1
  obtain rfl : args = #[v0, v1] := by cases args; simp_all
  obtain ⟨rfl, rfl⟩ := trodVars_none hV
  have k0 := h0
  have lt0 : ∀ x ∈ p0, x.block < W.heap.size := by obtain ⟨m, hm⟩ := k0; exact DataW.trod_lt m _ _ _ hm
  have k1 := h1
  have lt1 : ∀ x ∈ p1, x.block < W.heap.size := by obtain ⟨m, hm⟩ := k1; exact DataW.trod_lt m _ _ _ hm
  obtain ⟨a0, rfl, rfl, rfl, w0⟩ := open_int Try.underlying3 (hval 0 3 v0 rfl rfl) h0
  obtain ⟨a1, l1, c1, rfl⟩ := okWide_slice Try.underlying22 (hval 1 22 v1 rfl rfl)
  obtain ⟨f1, w1⟩ := open_rowS (m := 2) Try.underlying22 Try.underlying45 (by kernel_rfl) rfl (by kernel_rfl) (by kernel_rfl) (by decide) (h1)
  clear hA0 hval0
  refine (walk a0 a1 l1 c1 f1 W w0 w1).mono fun e W' ⟨he, bel⟩ => ?_
  subst he
  exact ⟨_, rfl, _, _, _, [], _, [], hW', trodAll_mk1 (shut_bool Try.underlying4 _), (trodAll_cons_mk (Below.trod laidOut (by kernel_rfl) (of_decide_eq_true (by kernel_rfl)) k0 bel lt0) (trodAll_cons_mk (Below.trod laidOut (by kernel_rfl) (of_decide_eq_true (by kernel_rfl)) k1 bel lt1) trodAll_mk0)), rfl, bel.frame _, fun h => by cases h⟩

theorem over : Rows.fnExactThreadsNeededRow.holds Try.pinned (OpenSpec.ofChange Rows.fnExactThreadsNeededSpec) :=
  OpenClaim.holds_of_wide 3 Try.f3 rfl rfl rfl rfl rfl rfl rfl ⟨rfl, rfl, rfl, rfl, rfl⟩ rfl rfl rfl rfl rfl (by kernel_rfl) Try.func3 (by kernel_rfl)
    (of_decide_eq_true (by kernel_rfl)) (by unfold Func.isWrapper; first | (rw [if_pos (by decide +kernel)]; kernel_rfl) | (rw [if_neg (by decide +kernel)]; exact ⟨rfl, rfl⟩))
    (fun os started H enc _ => lifted os started H enc)

/-- The statement. -/
theorem proved : Rows.FnExactThreadsNeededSaid := over
#print axioms proved
end Go.Proofs.Ytkgabnhfjmldbaa.fnExactThreadsNeeded
