/-
  The law FnExactInnerContrast: for every input the Go function returns true, and each argument reads afterwards as it read before.
  Conditions: none beyond the row's own.
-/
import Derived.Test.YthfhbcgnninlkaaInner
import Derived.ChangeOld
import Derived.Carry
namespace Go.Proofs.Ythfhbcgnninlkaa.fnExactInnerContrast
open Go.ChangeShapes Go.WideShapes Go.ChangeAt Go.RowKit Go.Joins
open Go.ChangeMaps (open_string shut_string)
set_option linter.unusedVariables false

theorem own : ownKnob Try.prog.godebug = none := by kernel_rfl
theorem laidOut : laidOutB Try.prog = true := by kernel_rfl

set_option maxHeartbeats 2000000 in
theorem walk (f0 : Nat → Int) (a1 : Option Addr) (l1 c1 : Nat) (z1 : List Int) (w : World) (w0 : ∀ i, (Lit.int .i64 (f0 i)).wf = true) (w1 : RowI .i64 w w.heap.size a1 l1 c1 z1) :
    Calls Try.prog 9 #[.agg #[.int .i64 (f0 0), .int .i64 (f0 1), .int .i64 (f0 2)], .slice a1 l1 c1] w fun e w' => e = .returned (.bool true) ∧ Below w.heap.size w w' := by
  clear w0
  rcases (by omega : l1 ≤ 1048576 ∨ 1048576 < l1) with q | q
  rotate_left
  · go_enter Try.func9, Try.ntmps9
    go_wp2
    go_ret
    exact ⟨rfl, (Below.refl _ _).alloc (Nat.le_refl _) _⟩
  have b0 : Below w.heap.size w (w.alloc (.cells #[.int .i64 (f0 0), .int .i64 (f0 1), .int .i64 (f0 2)] 27)) := (Below.refl _ _).alloc (Nat.le_refl _) _
  have bx : Box3 (w.alloc (.cells #[.int .i64 (f0 0), .int .i64 (f0 1), .int .i64 (f0 2)] 27)) w.heap.size f0 := ⟨by simp, by go_simp, by go_simp, by go_simp⟩
  go_enter Try.func9, Try.ntmps9
  go_wp2_with fail
  refine (to_cell f0 _).mono ?_
  rintro e x1 ⟨rfl, h1⟩
  have b1 : Below w.heap.size w x1 := b0.trans (h1.mono (by have := b0.size; omega))
  replace bx := bx.below h1 (by have := bx.1; omega)
  try clear kbx0 kbx1 kbx2 kbxz
  obtain ⟨kbxz, kbx0, kbx1, kbx2⟩ := id bx
  go_wp2_with fail
  refine (to_ints a1 l1 c1 z1 w.heap.size _ (w1.below b1) b1.size q).mono ?_
  rintro e x2 ⟨rfl, oP, h2⟩
  have b2 : Below w.heap.size w x2 := b1.trans (h2.mono (by have := b1.size; omega))
  replace bx := bx.below h2 (by have := bx.1; omega)
  try clear kbx0 kbx1 kbx2 kbxz
  obtain ⟨kbxz, kbx0, kbx1, kbx2⟩ := id bx
  go_wp2_with fail
  refine (spec_inner f0 (some ⟨x1.heap.size, 0, none⟩) l1 l1 z1 _ _ (oP.rowI (fun z hz => w1.2.2.2.1 z hz)) (Nat.le_refl _)).mono ?_
  rintro e x3 ⟨rfl, h3⟩
  have b3 : Below w.heap.size w x3 := b2.trans (h3.mono (by have := b2.size; omega))
  replace bx := bx.below h3 (by have := bx.1; omega)
  replace oP := oP.keep h3
  try clear kbx0 kbx1 kbx2 kbxz
  obtain ⟨kbxz, kbx0, kbx1, kbx2⟩ := id bx
  go_wp2_with fail
  refine (to_ints a1 l1 c1 z1 w.heap.size _ (w1.below b3) b3.size q).mono ?_
  rintro e x4 ⟨rfl, oX, h4⟩
  have b4 : Below w.heap.size w x4 := b3.trans (h4.mono (by have := b3.size; omega))
  replace bx := bx.below h4 (by have := bx.1; omega)
  replace oP := oP.keep h4
  try clear kbx0 kbx1 kbx2 kbxz
  obtain ⟨kbxz, kbx0, kbx1, kbx2⟩ := id bx
  go_wp2_with fail
  refine (to_cell f0 _).mono ?_
  rintro e x5 ⟨rfl, h5⟩
  have b5 : Below w.heap.size w x5 := b4.trans (h5.mono (by have := b4.size; omega))
  replace bx := bx.below h5 (by have := bx.1; omega)
  replace oP := oP.keep h5
  replace oX := oX.keep h5
  try clear kbx0 kbx1 kbx2 kbxz
  obtain ⟨kbxz, kbx0, kbx1, kbx2⟩ := id bx
  go_wp2_with fail
  refine (impl_inner f0 (some ⟨x3.heap.size, 0, none⟩) l1 l1 z1 _ _ (oX.rowI (fun z hz => w1.2.2.2.1 z hz)) (Nat.le_refl _)).mono ?_
  rintro e x6 ⟨rfl, h6⟩
  have b6 : Below w.heap.size w x6 := b5.trans (h6.mono (by have := b5.size; omega))
  replace bx := bx.below h6 (by have := bx.1; omega)
  replace oP := oP.keep h6
  replace oX := oX.keep h6
  try clear kbx0 kbx1 kbx2 kbxz
  obtain ⟨kbxz, kbx0, kbx1, kbx2⟩ := id bx
  go_wp2_with fail
  refine (to_ints a1 l1 c1 z1 w.heap.size _ (w1.below b6) b6.size q).mono ?_
  rintro e x7 ⟨rfl, oY, h7⟩
  have b7 : Below w.heap.size w x7 := b6.trans (h7.mono (by have := b6.size; omega))
  replace bx := bx.below h7 (by have := bx.1; omega)
  replace oP := oP.keep h7
  replace oX := oX.keep h7
  try clear kbx0 kbx1 kbx2 kbxz
  obtain ⟨kbxz, kbx0, kbx1, kbx2⟩ := id bx
  go_wp2_with fail
  refine (eq_ints (some ⟨x3.heap.size, 0, none⟩) (some ⟨x6.heap.size, 0, none⟩) l1 l1 l1 z1 _ _ _ (oX.rowI (fun z hz => w1.2.2.2.1 z hz)) (oY.rowI (fun z hz => w1.2.2.2.1 z hz))).mono ?_
  rintro e x8 ⟨rfl, h8⟩
  have b8 : Below w.heap.size w x8 := b7.trans (h8.mono (by have := b7.size; omega))
  replace bx := bx.below h8 (by have := bx.1; omega)
  replace oP := oP.keep h8
  replace oX := oX.keep h8
  replace oY := oY.keep h8
  try clear kbx0 kbx1 kbx2 kbxz
  obtain ⟨kbxz, kbx0, kbx1, kbx2⟩ := id bx
  go_wp2
  go_ret
  exact ⟨rfl, b8⟩

set_option maxRecDepth 100000 in
theorem lifted (os : Os) (started : os.Started) (H : Type) (enc : TypeId × Value → H) :
    ReturnsInHanded {} Try.checked os 9 .any (Rows.fnExactInnerContrastSpec.pre6 enc Try.prog Try.f9 Rows.fnExactInnerContrastRow.domain false) (Rows.fnExactInnerContrastSpec.post enc Try.prog Try.f9 false true false false) := by
  refine returnsInHanded_of_change (C := Try.checked) own started (by kernel_rfl) Try.func9
    (ChangeSpec.witness6 (enc := enc) (C := Try.checked) false ⟨#[], #[.agg #[.int .i64 0, .int .i64 0, .int .i64 0], .slice none 0 0], []⟩ 8 (by kernel_rfl) (by kernel_rfl) (by kernel_rfl) (by kernel_rfl)) ?_
  intro W base args ds gs before hval0 hW hcnd _
  have hval : ∀ (j : Nat) t v, Try.f9.params[j]? = some t → args[j]? = some v → Value.okWide Try.prog W .any base t v := hval0
  have hW' := hW
  obtain ⟨p, q, hA0, hV, rfl, hfz, hnd⟩ := hW
  have hA : DataW.TrodAll enc Try.prog W 0 (fun _ => true) true Try.f9.params.toList args.toList ds p := hA0
  rw [Try.params9] at hA hval
  obtain ⟨v0, vs0, d0, ds0, p0, q0, hargs, rfl, rfl, h0, r0⟩ := trodAll_cons hA
  obtain ⟨v1, vs1, d1, ds1, p1, q1, rfl, rfl, rfl, h1, r1⟩ := trodAll_cons r0
  obtain ⟨rfl, rfl, rfl⟩ := trodAll_nil r1
  obtain rfl : args = #[v0, v1] := by cases args; simp_all
  obtain ⟨rfl, rfl⟩ := trodVars_none hV
  have k0 := h0
  have lt0 : ∀ x ∈ p0, x.block < W.heap.size := by obtain ⟨m, hm⟩ := k0; exact DataW.trod_lt m _ _ _ hm
  have k1 := h1
  have lt1 : ∀ x ∈ p1, x.block < W.heap.size := by obtain ⟨m, hm⟩ := k1; exact DataW.trod_lt m _ _ _ hm
  obtain ⟨x0_0, x0_1, x0_2, y0_0, y0_1, y0_2, m0, rfl, rfl, rfl, hy0_0, hy0_1, hy0_2⟩ := open_agg3 Try.underlying27 (by kernel_rfl) (by kernel_rfl) (hval 0 27 v0 rfl rfl) h0
  obtain ⟨b0_0, e0_0, _, g0_0⟩ := DataW.trod_int Try.underlying3 hy0_0
  simp at e0_0; subst e0_0
  obtain ⟨b0_1, e0_1, _, g0_1⟩ := DataW.trod_int Try.underlying3 hy0_1
  simp at e0_1; subst e0_1
  obtain ⟨b0_2, e0_2, _, g0_2⟩ := DataW.trod_int Try.underlying3 hy0_2
  simp at e0_2; subst e0_2
  obtain ⟨f0, w0, q0_0, q0_1, q0_2⟩ : ∃ f : Nat → Int, (∀ i, (Lit.int .i64 (f i)).wf = true) ∧ b0_0 = f 0 ∧ b0_1 = f 1 ∧ b0_2 = f 2 := ⟨fun i => match i with | 0 => b0_0 | 1 => b0_1 | 2 => b0_2 | _ => 0, fun i => by match i with | 0 => exact g0_0 | 1 => exact g0_1 | 2 => exact g0_2 | _ + 3 => rfl, rfl, rfl, rfl⟩
  subst q0_0 q0_1 q0_2
  obtain ⟨a1, l1, c1, rfl⟩ := okWide_slice Try.underlying22 (hval 1 22 v1 rfl rfl)
  obtain ⟨z1, w1⟩ := open_rowI Try.underlying22 Try.underlying3 (by kernel_rfl) (h1)
  clear hA0 hval0
  refine (walk f0 a1 l1 c1 z1 W w0 w1).mono fun e W' ⟨he, bel⟩ => ?_
  subst he
  exact ⟨_, rfl, _, _, _, [], _, [], hW', trodAll_mk1 (shut_bool Try.underlying4 _), (trodAll_cons_mk (Below.trod laidOut (by kernel_rfl) (of_decide_eq_true (by kernel_rfl)) k0 bel lt0) (trodAll_cons_mk (Below.trod laidOut (by kernel_rfl) (of_decide_eq_true (by kernel_rfl)) k1 bel lt1) trodAll_mk0)), rfl, bel.frame _, fun h => by cases h⟩

theorem over : Rows.fnExactInnerContrastRow.holds Try.pinned (OpenSpec.ofChange Rows.fnExactInnerContrastSpec) :=
  OpenClaim.holds_of_wide 9 Try.f9 rfl rfl rfl rfl rfl rfl rfl ⟨rfl, rfl, rfl, rfl, rfl⟩ rfl rfl rfl rfl rfl (by kernel_rfl) Try.func9 (by kernel_rfl)
    (of_decide_eq_true (by kernel_rfl)) (by unfold Func.isWrapper; first | (rw [if_pos (by decide +kernel)]; kernel_rfl) | (rw [if_neg (by decide +kernel)]; exact ⟨rfl, rfl⟩))
    (fun os started H enc _ => lifted os started H enc)

/-- The statement. -/
theorem proved : Rows.FnExactInnerContrastSaid := over
#print axioms proved
end Go.Proofs.Ythfhbcgnninlkaa.fnExactInnerContrast
