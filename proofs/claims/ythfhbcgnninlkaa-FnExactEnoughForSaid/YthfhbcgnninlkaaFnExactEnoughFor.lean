/-
  The law FnExactEnoughFor: for every input the Go function returns true, and each argument reads afterwards as it read before.
  Conditions: none beyond the row's own.
-/
import Derived.Test.YthfhbcgnninlkaaStock2
import Derived.ChangeOld
import Derived.Carry
namespace Go.Proofs.Ythfhbcgnninlkaa.fnExactEnoughFor
open Go.ChangeShapes Go.WideShapes Go.ChangeAt Go.RowKit Go.Joins
open Go.ChangeMaps (open_string shut_string)
set_option linter.unusedVariables false

theorem own : ownKnob Try.prog.godebug = none := by kernel_rfl
theorem laidOut : laidOutB Try.prog = true := by kernel_rfl

theorem walk (a0 : Option Addr) (l0 c0 : Nat) (z0 : List Int) (a1 : Option Addr) (l1 c1 : Nat) (z1 : List Int) (w : World) (w0 : RowI .i64 w w.heap.size a0 l0 c0 z0) (w1 : RowI .i64 w w.heap.size a1 l1 c1 z1) :
    Calls Try.prog 7 #[.slice a0 l0 c0, .slice a1 l1 c1] w fun e w' => e = .returned (.bool true) ∧ Below w.heap.size w w' := by
  rcases (by omega : l0 ≤ 1048576 ∨ 1048576 < l0) with q0 | q0
  rotate_left
  · go_enter Try.func7, Try.ntmps7
    go_wp2
    go_ret
    exact ⟨rfl, Below.refl _ _⟩
  rcases (by omega : l1 ≤ 1048576 ∨ 1048576 < l1) with q1 | q1
  rotate_left
  · go_enter Try.func7, Try.ntmps7
    go_wp2
    go_ret
    exact ⟨rfl, Below.refl _ _⟩
  have b0 : Below w.heap.size w w := Below.refl _ _
  go_enter Try.func7, Try.ntmps7
  go_wp2_with fail
  refine (to_ints a0 l0 c0 z0 w.heap.size _ (w0.below b0) b0.size (by omega)).mono ?_
  rintro e x1 ⟨rfl, oP, h1⟩
  have b1 : Below w.heap.size w x1 := b0.trans (h1.mono b0.size)
  have u1 := h1.size
  have tP : ∀ k, blk (some ⟨w.heap.size, 0, none⟩) = some k → w.heap.size ≤ k ∧ k < x1.heap.size := oP.ge'
  go_wp2_with fail
  refine (to_ints a1 l1 c1 z1 w.heap.size _ (w1.below b1) b1.size (by omega)).mono ?_
  rintro e x2 ⟨rfl, oQ, h2⟩
  have b2 : Below w.heap.size w x2 := b1.trans (h2.mono b1.size)
  have u2 := h2.size
  replace oP := oP.keep h2
  have tQ : ∀ k, blk (some ⟨x1.heap.size, 0, none⟩) = some k → x1.heap.size ≤ k ∧ k < x2.heap.size := oQ.ge'
  go_wp2_with fail
  refine (spec_enough (some ⟨w.heap.size, 0, none⟩) (some ⟨x1.heap.size, 0, none⟩) l0 l1 l0 l1 z0 z1 _ _ _ (oP.rowI (fun z hz => w0.2.2.2.1 z hz)) (oQ.rowI (fun z hz => w1.2.2.2.1 z hz)) (Nat.le_refl _) (Nat.le_refl _)).mono ?_
  rintro e x3 ⟨rfl, h3⟩
  have b3 : Below w.heap.size w x3 := b2.trans (h3.mono b2.size)
  have u3 := h3.size
  replace oP := oP.keep h3
  replace oQ := oQ.keep h3
  go_wp2_with fail
  refine (to_ints a0 l0 c0 z0 w.heap.size _ (w0.below b3) b3.size (by omega)).mono ?_
  rintro e x4 ⟨rfl, oX, h4⟩
  have b4 : Below w.heap.size w x4 := b3.trans (h4.mono b3.size)
  have u4 := h4.size
  replace oP := oP.keep h4
  replace oQ := oQ.keep h4
  have tX : ∀ k, blk (some ⟨x3.heap.size, 0, none⟩) = some k → x3.heap.size ≤ k ∧ k < x4.heap.size := oX.ge'
  go_wp2_with fail
  refine (to_ints a1 l1 c1 z1 w.heap.size _ (w1.below b4) b4.size (by omega)).mono ?_
  rintro e x5 ⟨rfl, oZ, h5⟩
  have b5 : Below w.heap.size w x5 := b4.trans (h5.mono b4.size)
  have u5 := h5.size
  replace oP := oP.keep h5
  replace oQ := oQ.keep h5
  replace oX := oX.keep h5
  have tZ : ∀ k, blk (some ⟨x4.heap.size, 0, none⟩) = some k → x4.heap.size ≤ k ∧ k < x5.heap.size := oZ.ge'
  go_wp2_with fail
  refine (impl_enough (some ⟨x3.heap.size, 0, none⟩) (some ⟨x4.heap.size, 0, none⟩) l0 l1 l0 l1 z0 z1 _ _ _ (oX.rowI (fun z hz => w0.2.2.2.1 z hz)) (oZ.rowI (fun z hz => w1.2.2.2.1 z hz)) (Nat.le_refl _) (Nat.le_refl _)).mono ?_
  rintro e x6 ⟨rfl, h6⟩
  have b6 : Below w.heap.size w x6 := b5.trans (h6.mono b5.size)
  have u6 := h6.size
  replace oP := oP.keep h6
  replace oQ := oQ.keep h6
  replace oX := oX.keep h6
  replace oZ := oZ.keep h6
  go_wp2_with fail
  refine (to_ints a0 l0 c0 z0 w.heap.size _ (w0.below b6) b6.size (by omega)).mono ?_
  rintro e x7 ⟨rfl, oY, h7⟩
  have b7 : Below w.heap.size w x7 := b6.trans (h7.mono b6.size)
  have u7 := h7.size
  replace oP := oP.keep h7
  replace oQ := oQ.keep h7
  replace oX := oX.keep h7
  replace oZ := oZ.keep h7
  have tY : ∀ k, blk (some ⟨x6.heap.size, 0, none⟩) = some k → x6.heap.size ≤ k ∧ k < x7.heap.size := oY.ge'
  go_wp2_with fail
  refine (eq_ints (some ⟨x3.heap.size, 0, none⟩) (some ⟨x6.heap.size, 0, none⟩) l0 l0 l0 z0 _ _ _ (oX.rowI (fun z hz => w0.2.2.2.1 z hz)) (oY.rowI (fun z hz => w0.2.2.2.1 z hz))).mono ?_
  rintro e x8 ⟨rfl, h8⟩
  have b8 : Below w.heap.size w x8 := b7.trans (h8.mono b7.size)
  have u8 := h8.size
  replace oP := oP.keep h8
  replace oQ := oQ.keep h8
  replace oX := oX.keep h8
  replace oZ := oZ.keep h8
  replace oY := oY.keep h8
  go_wp2_with fail
  refine (to_ints a1 l1 c1 z1 w.heap.size _ (w1.below b8) b8.size (by omega)).mono ?_
  rintro e x9 ⟨rfl, oV, h9⟩
  have b9 : Below w.heap.size w x9 := b8.trans (h9.mono b8.size)
  have u9 := h9.size
  replace oP := oP.keep h9
  replace oQ := oQ.keep h9
  replace oX := oX.keep h9
  replace oZ := oZ.keep h9
  replace oY := oY.keep h9
  have tV : ∀ k, blk (some ⟨x8.heap.size, 0, none⟩) = some k → x8.heap.size ≤ k ∧ k < x9.heap.size := oV.ge'
  go_wp2_with fail
  refine (eq_ints (some ⟨x4.heap.size, 0, none⟩) (some ⟨x8.heap.size, 0, none⟩) l1 l1 l1 z1 _ _ _ (oZ.rowI (fun z hz => w1.2.2.2.1 z hz)) (oV.rowI (fun z hz => w1.2.2.2.1 z hz))).mono ?_
  rintro e x10 ⟨rfl, h10⟩
  have b10 : Below w.heap.size w x10 := b9.trans (h10.mono b9.size)
  have u10 := h10.size
  replace oP := oP.keep h10
  replace oQ := oQ.keep h10
  replace oX := oX.keep h10
  replace oZ := oZ.keep h10
  replace oY := oY.keep h10
  replace oV := oV.keep h10
  go_wp2
  go_ret
  exact ⟨rfl, b10⟩

set_option maxRecDepth 100000 in
theorem lifted (os : Os) (started : os.Started) (H : Type) (enc : TypeId × Value → H) :
    ReturnsInHanded {} Try.checked os 7 .any (Rows.fnExactEnoughForSpec.pre6 enc Try.prog Try.f7 Rows.fnExactEnoughForRow.domain false) (Rows.fnExactEnoughForSpec.post enc Try.prog Try.f7 false true false false) := by
  refine returnsInHanded_of_change (C := Try.checked) own started (by kernel_rfl) Try.func7
    (ChangeSpec.witness6 (enc := enc) (C := Try.checked) false ⟨#[], #[.slice none 0 0, .slice none 0 0], []⟩ 8 (by kernel_rfl) (by kernel_rfl) (by kernel_rfl) (by kernel_rfl)) ?_
  intro W base args ds gs before hval0 hW hcnd _
  have hval : ∀ (j : Nat) t v, Try.f7.params[j]? = some t → args[j]? = some v → Value.okWide Try.prog W .any base t v := hval0
  have hW' := hW
  obtain ⟨p, q, hA0, hV, rfl, hfz, hnd⟩ := hW
  have hA : DataW.TrodAll enc Try.prog W 0 (fun _ => true) true Try.f7.params.toList args.toList ds p := hA0
  rw [Try.params7] at hA hval
  obtain ⟨v0, vs0, d0, ds0, p0, q0, hargs, rfl, rfl, h0, r0⟩ := trodAll_cons hA
  obtain ⟨v1, vs1, d1, ds1, p1, q1, rfl, rfl, rfl, h1, r1⟩ := trodAll_cons r0
  obtain ⟨rfl, rfl, rfl⟩ := trodAll_nil r1
  obtain rfl : args = #[v0, v1] := by cases args; simp_all
  obtain ⟨rfl, rfl⟩ := trodVars_none hV
  have k0 := h0
  have lt0 : ∀ x ∈ p0, x.block < W.heap.size := by obtain ⟨m, hm⟩ := k0; exact DataW.trod_lt m _ _ _ hm
  have k1 := h1
  have lt1 : ∀ x ∈ p1, x.block < W.heap.size := by obtain ⟨m, hm⟩ := k1; exact DataW.trod_lt m _ _ _ hm
  obtain ⟨a0, l0, c0, rfl⟩ := okWide_slice Try.underlying22 (hval 0 22 v0 rfl rfl)
  obtain ⟨z0, w0⟩ := open_rowI Try.underlying22 Try.underlying3 (by kernel_rfl) (h0)
  obtain ⟨a1, l1, c1, rfl⟩ := okWide_slice Try.underlying22 (hval 1 22 v1 rfl rfl)
  obtain ⟨z1, w1⟩ := open_rowI Try.underlying22 Try.underlying3 (by kernel_rfl) (h1)
  clear hA0 hval0
  refine (walk a0 l0 c0 z0 a1 l1 c1 z1 W w0 w1).mono fun e W' ⟨he, bel⟩ => ?_
  subst he
  exact ⟨_, rfl, _, _, _, [], _, [], hW', trodAll_mk1 (shut_bool Try.underlying4 _), (trodAll_cons_mk (Below.trod laidOut (by kernel_rfl) (of_decide_eq_true (by kernel_rfl)) k0 bel lt0) (trodAll_cons_mk (Below.trod laidOut (by kernel_rfl) (of_decide_eq_true (by kernel_rfl)) k1 bel lt1) trodAll_mk0)), rfl, bel.frame _, fun h => by cases h⟩

theorem over : Rows.fnExactEnoughForRow.holds Try.pinned (OpenSpec.ofChange Rows.fnExactEnoughForSpec) :=
  OpenClaim.holds_of_wide 7 Try.f7 rfl rfl rfl rfl rfl rfl rfl ⟨rfl, rfl, rfl, rfl, rfl⟩ rfl rfl rfl rfl rfl (by kernel_rfl) Try.func7 (by kernel_rfl)
    (of_decide_eq_true (by kernel_rfl)) (by unfold Func.isWrapper; first | (rw [if_pos (by decide +kernel)]; kernel_rfl) | (rw [if_neg (by decide +kernel)]; exact ⟨rfl, rfl⟩))
    (fun os started H enc _ => lifted os started H enc)

/-- The statement. -/
theorem proved : Rows.FnExactEnoughForSaid := over
#print axioms proved
end Go.Proofs.Ythfhbcgnninlkaa.fnExactEnoughFor
