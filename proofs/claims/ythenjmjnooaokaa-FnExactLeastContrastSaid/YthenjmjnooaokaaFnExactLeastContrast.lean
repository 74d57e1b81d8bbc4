/-
  The law FnExactLeastContrast: for every input the Go function returns true, and each argument reads afterwards as it read before.
  Conditions: none beyond the row's own.
-/
import Derived.Test.YthenjmjnooaokaaContrI
import Derived.Test.YthenjmjnooaokaaContrT
import Derived.Test.YthenjmjnooaokaaBlocks
import Derived.Test.YthenjmjnooaokaaBoxV
import Derived.ChangeOld
import Derived.Carry
namespace Go.Proofs.Ythenjmjnooaokaa.fnExactLeastContrast
open Go.ChangeShapes Go.WideShapes Go.ChangeAt Go.RowKit Go.Joins
open Go.ChangeMaps (open_string shut_string)
set_option linter.unusedVariables false

theorem own : ownKnob Try.prog.godebug = none := by kernel_rfl
theorem laidOut : laidOutB Try.prog = true := by kernel_rfl

set_option maxRecDepth 100000 in
set_option maxHeartbeats 8000000 in
theorem walk (a0_0 : Int) (a0_1 : Option Addr) (l0_1 c0_1 : Nat) (f0_1 : Nat → Nat → Int) (a1 : Option Addr) (l1 c1 : Nat) (z1 : List Int) (w : World) (w0_0 : (Lit.int .i64 a0_0).wf = true) (w0_1 : RowS 3 w w.heap.size a0_1 l0_1 c0_1 f0_1) (w1 : RowI .i64 w w.heap.size a1 l1 c1 z1) :
    Calls Try.prog 7 #[.agg #[.int .i64 a0_0, .slice a0_1 l0_1 c0_1], .slice a1 l1 c1] w fun e w' => e = .returned (.bool true) ∧ Below w.heap.size w w' := by
  clear w0_0
  have hcap := w0_1.cap
  have hcap1 := w1.cap
  unfold maxLen at hcap hcap1
  have p0 := w0_1.rowP
  have HF0 : Hid (∀ i, i < l0_1 → ∀ j, j < 3 → (Lit.int .i64 (f0_1 i j)).wf = true) := Lib.hid fun i _ j _ => w0_1.wf i j
  have HZ1 : Hid (∀ z ∈ z1, (Lit.int .i64 z).wf = true) := Lib.hid w1.2.2.2.1
  have b0 : Below w.heap.size w (w.alloc (.cells #[.int .i64 a0_0, .slice a0_1 l0_1 c0_1] 24)) := (Below.refl _ _).alloc (Nat.le_refl _) _
  have box0 : BoxV (w.alloc (.cells #[.int .i64 a0_0, .slice a0_1 l0_1 c0_1] 24)) w.heap.size [.int .i64 a0_0, .slice a0_1 l0_1 c0_1] := boxV_new w [.int .i64 a0_0, .slice a0_1 l0_1 c0_1] 24
  clear w0_1
  rcases (by omega : 1048576 < l1 ∨ l1 ≤ 1048576) with q1 | q1
  · go_enter Try.func7, Try.ntmps7
    go_wp2
    go_ret
    exact ⟨rfl, b0⟩
  obtain ⟨w2, hw2⟩ : ∃ w2, w2 = (w.alloc (.cells #[.int .i64 a0_0, .slice a0_1 l0_1 c0_1] 24)) := ⟨_, rfl⟩
  rw [← hw2] at b0 box0
  have z2 := box0.1
  go_enter Try.func7, Try.ntmps7
  have box0_z := box0.1
  have box0_0 := box0.2 0 _ rfl
  have box0_1 := box0.2 1 _ rfl
  go_wp2_with fail
  rw [← hw2]
  clear hw2
  clear box0_z box0_0 box0_1
  refine (sz_block a0_0 a0_1 l0_1 c0_1 1048576 _ (by omega) (by omega) (by omega)).mono ?_
  rintro e x1 ⟨rfl, h1⟩
  have b1 : Below w.heap.size w x1 := b0.trans (h1.mono (by have := b0.size; omega))
  replace box0 := box0.below h1 (by have := box0.1; omega)
  rcases (by omega : 1048576 < l0_1 ∨ l0_1 ≤ 1048576) with q0 | q0
  · rw [if_pos (by omega)]
    go_wp2
    go_ret
    exact ⟨rfl, b1⟩
  rw [if_neg (by omega)]
  have box0_z := box0.1
  have box0_0 := box0.2 0 _ rfl
  have box0_1 := box0.2 1 _ rfl
  go_wp2_with fail
  clear box0_z box0_0 box0_1
  refine (to_block a0_0 a0_1 l0_1 c0_1 f0_1 w.heap.size _ (p0.below b1) b1.size q0).mono ?_
  rintro e x2 ⟨gP, rfl, oP, h2⟩
  have b2 : Below w.heap.size w x2 := b1.trans (h2.mono (by have := b1.size; omega))
  replace box0 := box0.below h2 (by have := box0.1; omega)
  have box0_z := box0.1
  have box0_0 := box0.2 0 _ rfl
  have box0_1 := box0.2 1 _ rfl
  go_wp2_with fail
  clear box0_z box0_0 box0_1
  refine (to_ints a1 l1 c1 z1 w.heap.size _ (w1.below b2) b2.size q1).mono ?_
  rintro e x3 ⟨rfl, oQ, h3⟩
  have b3 : Below w.heap.size w x3 := b2.trans (h3.mono (by have := b2.size; omega))
  replace box0 := box0.below h3 (by have := box0.1; omega)
  replace oP := oP.keep h3
  have box0_z := box0.1
  have box0_0 := box0.2 0 _ rfl
  have box0_1 := box0.2 1 _ rfl
  go_wp2_with fail
  clear box0_z box0_0 box0_1
  refine (spec_leastC a0_0 (some ⟨gP, 0, none⟩) l0_1 l0_1 f0_1 (some ⟨x2.heap.size, 0, none⟩) l1 l1 z1 _ _ (oP.rowP HF0.out) (oQ.rowI HZ1.out) (Nat.le_refl _)).mono ?_
  rintro e x4 ⟨rfl, h4⟩
  have b4 : Below w.heap.size w x4 := b3.trans (h4.mono (by have := b3.size; omega))
  replace box0 := box0.below h4 (by have := box0.1; omega)
  replace oP := oP.keep h4
  replace oQ := oQ.keep h4
  have box0_z := box0.1
  have box0_0 := box0.2 0 _ rfl
  have box0_1 := box0.2 1 _ rfl
  go_wp2_with fail
  clear box0_z box0_0 box0_1
  refine (to_block a0_0 a0_1 l0_1 c0_1 f0_1 w.heap.size _ (p0.below b4) b4.size q0).mono ?_
  rintro e x5 ⟨gX, rfl, oX, h5⟩
  have b5 : Below w.heap.size w x5 := b4.trans (h5.mono (by have := b4.size; omega))
  replace box0 := box0.below h5 (by have := box0.1; omega)
  replace oP := oP.keep h5
  replace oQ := oQ.keep h5
  have box0_z := box0.1
  have box0_0 := box0.2 0 _ rfl
  have box0_1 := box0.2 1 _ rfl
  obtain ⟨y5, hw5⟩ : ∃ y, y = x5.alloc (.cells #[.int .i64 a0_0, .slice (some ⟨gX, 0, none⟩) l0_1 l0_1] 31) := ⟨_, rfl⟩
  have n5 : Below x5.heap.size x5 y5 := by rw [hw5]; exact (Below.refl _ _).alloc (Nat.le_refl _) _
  have bX : BoxV y5 x5.heap.size [.int .i64 a0_0, .slice (some ⟨gX, 0, none⟩) l0_1 l0_1] := by rw [hw5]; exact boxV_new _ _ _
  go_wp2_with fail
  rw [← hw5]
  clear hw5
  clear box0_z box0_0 box0_1
  have e5 := n5.size
  have bn5 : Below w.heap.size w y5 := b5.trans (n5.mono (by have := b5.size; omega))
  replace box0 := box0.below n5 (by have := box0.1; omega)
  replace oP := oP.keep n5
  replace oQ := oQ.keep n5
  replace oX := oX.keep n5
  refine (to_ints a1 l1 c1 z1 w.heap.size _ (w1.below bn5) bn5.size q1).mono ?_
  rintro e x6 ⟨rfl, oV, h6⟩
  have b6 : Below w.heap.size w x6 := bn5.trans (h6.mono (by have := bn5.size; omega))
  replace box0 := box0.below h6 (by have := box0.1; omega)
  replace bX := bX.below h6 (by have := bX.1; omega)
  replace oP := oP.keep h6
  replace oQ := oQ.keep h6
  replace oX := oX.keep h6
  have box0_z := box0.1
  have box0_0 := box0.2 0 _ rfl
  have box0_1 := box0.2 1 _ rfl
  have bX_z := bX.1
  have bX_0 := bX.2 0 _ rfl
  have bX_1 := bX.2 1 _ rfl
  go_wp2_with fail
  clear box0_z box0_0 box0_1
  clear bX_z bX_0 bX_1
  refine (impl_leastC a0_0 (some ⟨gX, 0, none⟩) l0_1 l0_1 f0_1 (some ⟨y5.heap.size, 0, none⟩) l1 l1 z1 _ _ (oX.rowP HF0.out) (oV.rowI HZ1.out) (Nat.le_refl _)).mono ?_
  rintro e x7 ⟨rfl, h7⟩
  have b7 : Below w.heap.size w x7 := b6.trans (h7.mono (by have := b6.size; omega))
  replace box0 := box0.below h7 (by have := box0.1; omega)
  replace bX := bX.below h7 (by have := bX.1; omega)
  replace oP := oP.keep h7
  replace oQ := oQ.keep h7
  replace oX := oX.keep h7
  replace oV := oV.keep h7
  have box0_z := box0.1
  have box0_0 := box0.2 0 _ rfl
  have box0_1 := box0.2 1 _ rfl
  have bX_z := bX.1
  have bX_0 := bX.2 0 _ rfl
  have bX_1 := bX.2 1 _ rfl
  go_wp2_with fail
  go_region_held3 (fun w' => w'.cell? ⟨x5.heap.size, 0, none⟩ = some (.int .i64 a0_0) ∧ w'.cell? ⟨x5.heap.size, 1, none⟩ = some (.slice (some ⟨gX, 0, none⟩) l0_1 l0_1) ∧ w'.cell? ⟨w.heap.size, 0, none⟩ = some (.int .i64 a0_0) ∧ w'.cell? ⟨w.heap.size, 1, none⟩ = some (.slice a0_1 l0_1 c0_1)) (first | go_keep | (exact ⟨s0, s1, s2, s3⟩)) (first | (go_at_call 18; ((with_reducible refine (to_block a0_0 a0_1 l0_1 c0_1 f0_1 w.heap.size _ (p0.below b7.drew) b7.drew.size q0).mono ?_); rintro e x8 ⟨gZ, rfl, oZ, h8⟩); replace h8 := below_drew h8; have u8 := h8.size; have s0 := (h8.cell (p := ⟨x5.heap.size, 0, none⟩) (by show x5.heap.size < _; omega)).trans bX_0; have s1 := (h8.cell (p := ⟨x5.heap.size, 1, none⟩) (by show x5.heap.size < _; omega)).trans bX_1; have s2 := (h8.cell (p := ⟨w.heap.size, 0, none⟩) (by show w.heap.size < _; omega)).trans box0_0; have s3 := (h8.cell (p := ⟨w.heap.size, 1, none⟩) (by show w.heap.size < _; omega)).trans box0_1; have b8 : Below w.heap.size w x8 := b7.trans (h8.mono (by have := b7.size; omega)); replace box0 := box0.below h8 (by have := box0.1; omega); replace bX := bX.below h8 (by have := bX.1; omega); replace oP := oP.keep h8; replace oQ := oQ.keep h8; replace oX := oX.keep h8; replace oV := oV.keep h8) | (go_at_call 20; ((with_reducible refine (eq_block a0_0 (some ⟨gX, 0, none⟩) (some ⟨gZ, 0, none⟩) l0_1 l0_1 l0_1 f0_1 _ _ (oX.rowP HF0.out) (oZ.rowP HF0.out) (Nat.le_refl _)).mono ?_); rintro e x9 ⟨rfl, h9⟩); have u9 := h9.size; have s0 := (h9.cell (p := ⟨x5.heap.size, 0, none⟩) (by show x5.heap.size < _; omega)).trans s0; have s1 := (h9.cell (p := ⟨x5.heap.size, 1, none⟩) (by show x5.heap.size < _; omega)).trans s1; have s2 := (h9.cell (p := ⟨w.heap.size, 0, none⟩) (by show w.heap.size < _; omega)).trans s2; have s3 := (h9.cell (p := ⟨w.heap.size, 1, none⟩) (by show w.heap.size < _; omega)).trans s3; have b9 : Below w.heap.size w x9 := b8.trans (h9.mono (by have := b8.size; omega)); replace box0 := box0.below h9 (by have := box0.1; omega); replace bX := bX.below h9 (by have := bX.1; omega); replace oP := oP.keep h9; replace oQ := oQ.keep h9; replace oX := oX.keep h9; replace oV := oV.keep h9; replace oZ := oZ.keep h9))
  clear s0 s1 s2 s3
  clear box0_z box0_0 box0_1
  clear bX_z bX_0 bX_1
  have box0_z := box0.1
  have box0_0 := box0.2 0 _ rfl
  have box0_1 := box0.2 1 _ rfl
  have bX_z := bX.1
  have bX_0 := bX.2 0 _ rfl
  have bX_1 := bX.2 1 _ rfl
  go_wp2_with fail
  clear box0_z box0_0 box0_1
  clear bX_z bX_0 bX_1
  refine (to_ints a1 l1 c1 z1 w.heap.size _ (w1.below b9) b9.size q1).mono ?_
  rintro e x10 ⟨rfl, oU, h10⟩
  have b10 : Below w.heap.size w x10 := b9.trans (h10.mono (by have := b9.size; omega))
  replace box0 := box0.below h10 (by have := box0.1; omega)
  replace bX := bX.below h10 (by have := bX.1; omega)
  replace oP := oP.keep h10
  replace oQ := oQ.keep h10
  replace oX := oX.keep h10
  replace oV := oV.keep h10
  replace oZ := oZ.keep h10
  have box0_z := box0.1
  have box0_0 := box0.2 0 _ rfl
  have box0_1 := box0.2 1 _ rfl
  have bX_z := bX.1
  have bX_0 := bX.2 0 _ rfl
  have bX_1 := bX.2 1 _ rfl
  go_wp2_with fail
  clear box0_z box0_0 box0_1
  clear bX_z bX_0 bX_1
  refine (eq_ints (some ⟨y5.heap.size, 0, none⟩) (some ⟨x9.heap.size, 0, none⟩) l1 l1 l1 z1 _ _ _ (oV.rowI HZ1.out) (oU.rowI HZ1.out)).mono ?_
  rintro e x11 ⟨rfl, h11⟩
  have b11 : Below w.heap.size w x11 := b10.trans (h11.mono (by have := b10.size; omega))
  replace box0 := box0.below h11 (by have := box0.1; omega)
  replace bX := bX.below h11 (by have := bX.1; omega)
  replace oP := oP.keep h11
  replace oQ := oQ.keep h11
  replace oX := oX.keep h11
  replace oV := oV.keep h11
  replace oZ := oZ.keep h11
  replace oU := oU.keep h11
  go_wp2
  go_ret
  exact ⟨rfl, b11⟩

set_option maxRecDepth 100000 in
theorem lifted (os : Os) (started : os.Started) (H : Type) (enc : TypeId × Value → H) :
    ReturnsInHanded {} Try.checked os 7 .any (Rows.fnExactLeastContrastSpec.pre6 enc Try.prog Try.f7 Rows.fnExactLeastContrastRow.domain false) (Rows.fnExactLeastContrastSpec.post enc Try.prog Try.f7 false true false false) := by
  refine returnsInHanded_of_change (C := Try.checked) own started (by kernel_rfl) Try.func7
    (ChangeSpec.witness6 (enc := enc) (C := Try.checked) false ⟨#[], #[.agg #[.int .i64 0, .slice none 0 0], .slice none 0 0], []⟩ 8 (by kernel_rfl) (by kernel_rfl) (by kernel_rfl) (by kernel_rfl)) ?_
  intro W base args ds gs before hval0 hW hcnd _
  have hval : ∀ (j : Nat) t v, Try.f7.params[j]? = some t → args[j]? = some v → Value.okWide Try.prog W .any base t v := hval0
  have hW' := hW
  obtain ⟨p, q, hA0, hV, rfl, hfz, hnd⟩ := hW
  have hA : DataW.TrodAll enc Try.prog W 0 (fun _ => true) true Try.f7.params.toList args.toList ds p := hA0
  rw [Try.params7] at hA hval
  obtain ⟨v0, vs0, d0, ds0, p0, q0, hargs, rfl, rfl, h0, r0⟩ := trodAll_cons hA
  obtain ⟨v1, vs1, d1, ds1, p1, q1, rfl, rfl, rfl, h1, r1⟩ := trodAll_cons r0
  obtain ⟨rfl, rfl, rfl⟩ := trodAll_nil r1
  obtain rfl : args = #[v0, v1] := by cases args; simp_all
  obtain ⟨rfl, rfl⟩ := trodVars_none hV
  have k0 := h0
  have lt0 : ∀ x ∈ p0, x.block < W.heap.size := by obtain ⟨m, hm⟩ := k0; exact DataW.trod_lt m _ _ _ hm
  have k1 := h1
  have lt1 : ∀ x ∈ p1, x.block < W.heap.size := by obtain ⟨m, hm⟩ := k1; exact DataW.trod_lt m _ _ _ hm
  obtain ⟨x0_0, x0_1, y0_0, y0_1, m0, rfl, rfl, rfl, hy0_0, hy0_1⟩ := open_agg2 Try.underlying24 (by kernel_rfl) (by kernel_rfl) (hval 0 24 v0 rfl rfl) h0
  obtain ⟨a0_0, e0_0, _, w0_0⟩ := DataW.trod_int Try.underlying3 hy0_0
  simp at e0_0; subst e0_0
  obtain ⟨a0_1, l0_1, c0_1, e0_1⟩ := cell_slice Try.underlying22 hy0_1
  subst e0_1
  obtain ⟨f0_1, w0_1⟩ := open_rowS (m := 3) Try.underlying22 Try.underlying108 (by kernel_rfl) rfl (by kernel_rfl) (by kernel_rfl) (by decide) (⟨m0, by simpa [Value.cells] using hy0_1⟩)
  obtain ⟨a1, l1, c1, rfl⟩ := okWide_slice Try.underlying44 (hval 1 44 v1 rfl rfl)
  obtain ⟨z1, w1⟩ := open_rowI Try.underlying44 Try.underlying3 (by kernel_rfl) (h1)
  clear hA0 hval0
  refine (walk a0_0 a0_1 l0_1 c0_1 f0_1 a1 l1 c1 z1 W w0_0 w0_1 w1).mono fun e W' ⟨he, bel⟩ => ?_
  subst he
  exact ⟨_, rfl, _, _, _, [], _, [], hW', trodAll_mk1 (shut_bool Try.underlying4 _), (trodAll_cons_mk (Below.trod laidOut (by kernel_rfl) (of_decide_eq_true (by kernel_rfl)) k0 bel lt0) (trodAll_cons_mk (Below.trod laidOut (by kernel_rfl) (of_decide_eq_true (by kernel_rfl)) k1 bel lt1) trodAll_mk0)), rfl, bel.frame _, fun h => by cases h⟩

theorem over : Rows.fnExactLeastContrastRow.holds Try.pinned (OpenSpec.ofChange Rows.fnExactLeastContrastSpec) :=
  OpenClaim.holds_of_wide 7 Try.f7 rfl rfl rfl rfl rfl rfl rfl ⟨rfl, rfl, rfl, rfl, rfl⟩ rfl rfl rfl rfl rfl (by kernel_rfl) Try.func7 (by kernel_rfl)
    (of_decide_eq_true (by kernel_rfl)) (by unfold Func.isWrapper; first | (rw [if_pos (by decide +kernel)]; kernel_rfl) | (rw [if_neg (by decide +kernel)]; exact ⟨rfl, rfl⟩))
    (fun os started H enc _ => lifted os started H enc)

/-- The statement. -/
theorem proved : Rows.FnExactLeastContrastSaid := over
#print axioms proved
end Go.Proofs.Ythenjmjnooaokaa.fnExactLeastContrast
