/-
  The law FnExactEdgeContrast: for every input the Go function returns true, and each argument reads afterwards as it read before.
  Conditions: none beyond the row's own.
-/
import Derived.Test.YthfhbcgnninlkaaEdge
import Derived.ChangeOld
import Derived.Carry
namespace Go.Proofs.Ythfhbcgnninlkaa.fnExactEdgeContrast
open Go.ChangeShapes Go.WideShapes Go.ChangeAt Go.RowKit Go.Joins
open Go.ChangeMaps (open_string shut_string)
set_option linter.unusedVariables false

theorem own : ownKnob Try.prog.godebug = none := by kernel_rfl
theorem laidOut : laidOutB Try.prog = true := by kernel_rfl

set_option maxHeartbeats 4000000 in
theorem walk (f0 : Nat → Int) (f1 : Nat → Int) (a2 : Bool) (a3 : Option Addr) (l3 c3 : Nat) (z3 : List Int) (w : World) (w0 : ∀ i, (Lit.int .i64 (f0 i)).wf = true) (w1 : ∀ i, (Lit.int .i64 (f1 i)).wf = true) (w3 : RowI .i64 w w.heap.size a3 l3 c3 z3) :
    Calls Try.prog 10 #[.agg #[.int .i64 (f0 0), .int .i64 (f0 1), .int .i64 (f0 2)], .agg #[.int .i64 (f1 0), .int .i64 (f1 1), .int .i64 (f1 2)], .bool a2, .slice a3 l3 c3] w fun e w' => e = .returned (.bool true) ∧ Below w.heap.size w w' := by
  clear w0 w1
  have HWf : Hid (∀ z ∈ z3, (Lit.int .i64 z).wf = true) := Lib.hid w3.2.2.2.1
  rcases (by omega : l3 ≤ 1048576 ∨ 1048576 < l3) with q | q
  rotate_left
  · go_enter Try.func10, Try.ntmps10
    go_wp2
    go_ret
    exact ⟨rfl, ((Below.refl _ _).alloc (Nat.le_refl _) _).alloc (by simp) _⟩
  go_enter Try.func10, Try.ntmps10
  go_wp2_with fail
  obtain ⟨w2, hw2⟩ : ∃ w2, w2 = ((w.alloc (.cells #[.int .i64 (f0 0), .int .i64 (f0 1), .int .i64 (f0 2)] 27)).alloc (.cells #[.int .i64 (f1 0), .int .i64 (f1 1), .int .i64 (f1 2)] 27)) := ⟨_, rfl⟩
  have b2 : Below w.heap.size w w2 := by rw [hw2]; exact ((Below.refl _ _).alloc (Nat.le_refl _) _).alloc (by simp) _
  have hz : w.heap.size + 1 < w2.heap.size := by rw [hw2]; simp
  have fc0 : w2.cell? ⟨w.heap.size, 0, none⟩ = some (.int .i64 (f0 0)) := by rw [hw2]; go_simp
  have fc1 : w2.cell? ⟨w.heap.size, 1, none⟩ = some (.int .i64 (f0 1)) := by rw [hw2]; go_simp
  have fc2 : w2.cell? ⟨w.heap.size, 2, none⟩ = some (.int .i64 (f0 2)) := by rw [hw2]; go_simp
  have gc0 : w2.cell? ⟨w.heap.size + 1, 0, none⟩ = some (.int .i64 (f1 0)) := by rw [hw2]; go_simp
  have gc1 : w2.cell? ⟨w.heap.size + 1, 1, none⟩ = some (.int .i64 (f1 1)) := by rw [hw2]; go_simp
  have gc2 : w2.cell? ⟨w.heap.size + 1, 2, none⟩ = some (.int .i64 (f1 2)) := by rw [hw2]; go_simp
  rw [← hw2]
  clear hw2
  go_region_held3 (fun w' => w'.cell? ⟨w.heap.size, 0, none⟩ = some (.int .i64 (f0 0)) ∧ w'.cell? ⟨w.heap.size, 1, none⟩ = some (.int .i64 (f0 1)) ∧ w'.cell? ⟨w.heap.size, 2, none⟩ = some (.int .i64 (f0 2)) ∧ w'.cell? ⟨w.heap.size + 1, 0, none⟩ = some (.int .i64 (f1 0)) ∧ w'.cell? ⟨w.heap.size + 1, 1, none⟩ = some (.int .i64 (f1 1)) ∧ w'.cell? ⟨w.heap.size + 1, 2, none⟩ = some (.int .i64 (f1 2))) (first | go_keep | (exact ⟨s0, s1, s2, s3, s4, s5⟩)) (first | (go_at_call 22; ((with_reducible refine (to_cell f0 _).mono ?_); rintro e wc0 ⟨rfl, hbc0⟩); replace hbc0 := below_drew hbc0; obtain ⟨hcc0, hfc0⟩ := bcell hbc0; have zc0 := hbc0.size; have s0 := (hcc0 (w.heap.size) 0 (by omega)).trans fc0; have s1 := (hcc0 (w.heap.size) 1 (by omega)).trans fc1; have s2 := (hcc0 (w.heap.size) 2 (by omega)).trans fc2; have s3 := (hcc0 (w.heap.size + 1) 0 (by omega)).trans gc0; have s4 := (hcc0 (w.heap.size + 1) 1 (by omega)).trans gc1; have s5 := (hcc0 (w.heap.size + 1) 2 (by omega)).trans gc2; have d0 : Below w.heap.size w wc0 := b2.trans (hbc0.mono (by omega))) | (go_at_call 22; ((with_reducible refine (to_cell f1 _).mono ?_); rintro e wc1 ⟨rfl, hbc1⟩); obtain ⟨hcc1, hfc1⟩ := bcell hbc1; have zc1 := hbc1.size; have s0 := (hcc1 (w.heap.size) 0 (by omega)).trans s0; have s1 := (hcc1 (w.heap.size) 1 (by omega)).trans s1; have s2 := (hcc1 (w.heap.size) 2 (by omega)).trans s2; have s3 := (hcc1 (w.heap.size + 1) 0 (by omega)).trans s3; have s4 := (hcc1 (w.heap.size + 1) 1 (by omega)).trans s4; have s5 := (hcc1 (w.heap.size + 1) 2 (by omega)).trans s5; have d1 : Below w.heap.size w wc1 := d0.trans (hbc1.mono (by omega))) | (go_at_call 16; ((with_reducible refine (to_ints a3 l3 c3 z3 w.heap.size _ (w3.below d1) d1.size q).mono ?_); rintro e wc2 ⟨rfl, oP, hbc2⟩); obtain ⟨hcc2, hfc2⟩ := bcell hbc2; have zc2 := hbc2.size; have s0 := (hcc2 (w.heap.size) 0 (by omega)).trans s0; have s1 := (hcc2 (w.heap.size) 1 (by omega)).trans s1; have s2 := (hcc2 (w.heap.size) 2 (by omega)).trans s2; have s3 := (hcc2 (w.heap.size + 1) 0 (by omega)).trans s3; have s4 := (hcc2 (w.heap.size + 1) 1 (by omega)).trans s4; have s5 := (hcc2 (w.heap.size + 1) 2 (by omega)).trans s5; have d2 : Below w.heap.size w wc2 := d1.trans (hbc2.mono (by omega))) | (go_at_call 34; ((with_reducible refine (spec_edge f0 f1 a2 (some ⟨wc1.heap.size, 0, none⟩) l3 l3 z3 _ _ (oP.rowI HWf.out) (Nat.le_refl _)).mono ?_); rintro e wc3 ⟨rfl, hbc3⟩); obtain ⟨hcc3, hfc3⟩ := bcell hbc3; have zc3 := hbc3.size; have s0 := (hcc3 (w.heap.size) 0 (by omega)).trans s0; have s1 := (hcc3 (w.heap.size) 1 (by omega)).trans s1; have s2 := (hcc3 (w.heap.size) 2 (by omega)).trans s2; have s3 := (hcc3 (w.heap.size + 1) 0 (by omega)).trans s3; have s4 := (hcc3 (w.heap.size + 1) 1 (by omega)).trans s4; have s5 := (hcc3 (w.heap.size + 1) 2 (by omega)).trans s5; have d3 : Below w.heap.size w wc3 := d2.trans (hbc3.mono (by omega))))
  clear fc0 fc1 fc2 gc0 gc1 gc2 hcc0 hcc1 hcc2 hcc3 hfc0 hfc1 hfc2 hfc3 hbc0 hbc1 hbc2 hbc3
  have hy : w.heap.size + 1 < wc3.heap.size := by omega
  clear zc0 zc1 zc2 zc3 hz
  go_wp2_with fail
  refine (to_ints a3 l3 c3 z3 w.heap.size _ (w3.below d3) d3.size q).mono ?_
  rintro e x1 ⟨rfl, oX, h1⟩
  have d4 : Below w.heap.size w x1 := d3.trans (h1.mono (by omega))
  have hy1 := h1.size
  obtain ⟨hcx, hfx⟩ := bcell h1
  replace s0 := (hcx (w.heap.size) 0 (by omega)).trans s0
  replace s1 := (hcx (w.heap.size) 1 (by omega)).trans s1
  replace s2 := (hcx (w.heap.size) 2 (by omega)).trans s2
  replace s3 := (hcx (w.heap.size + 1) 0 (by omega)).trans s3
  replace s4 := (hcx (w.heap.size + 1) 1 (by omega)).trans s4
  replace s5 := (hcx (w.heap.size + 1) 2 (by omega)).trans s5
  clear hcx hfx h1
  go_wp2_with fail
  go_region_held3 (fun w' => w'.cell? ⟨w.heap.size, 0, none⟩ = some (.int .i64 (f0 0)) ∧ w'.cell? ⟨w.heap.size, 1, none⟩ = some (.int .i64 (f0 1)) ∧ w'.cell? ⟨w.heap.size, 2, none⟩ = some (.int .i64 (f0 2)) ∧ w'.cell? ⟨w.heap.size + 1, 0, none⟩ = some (.int .i64 (f1 0)) ∧ w'.cell? ⟨w.heap.size + 1, 1, none⟩ = some (.int .i64 (f1 1)) ∧ w'.cell? ⟨w.heap.size + 1, 2, none⟩ = some (.int .i64 (f1 2))) (first | go_keep | (exact ⟨s0, s1, s2, s3, s4, s5⟩)) (first | (go_at_call 22; ((with_reducible refine (to_cell f0 _).mono ?_); rintro e wcx0 ⟨rfl, hbcx0⟩); replace hbcx0 := below_drew hbcx0; obtain ⟨hcc0, hfc0⟩ := bcell hbcx0; have zc0 := hbcx0.size; have s0 := (hcc0 (w.heap.size) 0 (by omega)).trans s0; have s1 := (hcc0 (w.heap.size) 1 (by omega)).trans s1; have s2 := (hcc0 (w.heap.size) 2 (by omega)).trans s2; have s3 := (hcc0 (w.heap.size + 1) 0 (by omega)).trans s3; have s4 := (hcc0 (w.heap.size + 1) 1 (by omega)).trans s4; have s5 := (hcc0 (w.heap.size + 1) 2 (by omega)).trans s5; replace oX := oX.keep hbcx0; have dx0 : Below w.heap.size w wcx0 := d4.trans (hbcx0.mono (by omega))) | (go_at_call 22; ((with_reducible refine (to_cell f1 _).mono ?_); rintro e wcx1 ⟨rfl, hbcx1⟩); obtain ⟨hcc1, hfc1⟩ := bcell hbcx1; have zc1 := hbcx1.size; have s0 := (hcc1 (w.heap.size) 0 (by omega)).trans s0; have s1 := (hcc1 (w.heap.size) 1 (by omega)).trans s1; have s2 := (hcc1 (w.heap.size) 2 (by omega)).trans s2; have s3 := (hcc1 (w.heap.size + 1) 0 (by omega)).trans s3; have s4 := (hcc1 (w.heap.size + 1) 1 (by omega)).trans s4; have s5 := (hcc1 (w.heap.size + 1) 2 (by omega)).trans s5; replace oX := oX.keep hbcx1; have dx1 : Below w.heap.size w wcx1 := dx0.trans (hbcx1.mono (by omega))) | (go_at_call 35; ((with_reducible refine (impl_edge f0 f1 a2 (some ⟨wc3.heap.size, 0, none⟩) l3 l3 z3 _ _ (oX.rowI HWf.out) (Nat.le_refl _)).mono ?_); rintro e wcx2 ⟨rfl, hbcx2⟩); obtain ⟨hcc2, hfc2⟩ := bcell hbcx2; have zc2 := hbcx2.size; have s0 := (hcc2 (w.heap.size) 0 (by omega)).trans s0; have s1 := (hcc2 (w.heap.size) 1 (by omega)).trans s1; have s2 := (hcc2 (w.heap.size) 2 (by omega)).trans s2; have s3 := (hcc2 (w.heap.size + 1) 0 (by omega)).trans s3; have s4 := (hcc2 (w.heap.size + 1) 1 (by omega)).trans s4; have s5 := (hcc2 (w.heap.size + 1) 2 (by omega)).trans s5; replace oX := oX.keep hbcx2; have dx2 : Below w.heap.size w wcx2 := dx1.trans (hbcx2.mono (by omega))))
  clear hcc0 hcc1 hcc2 hfc0 hfc1 hfc2 hbcx0 hbcx1 hbcx2 s0 s1 s2 s3 s4 s5
  go_wp2_with fail
  refine (to_ints a3 l3 c3 z3 w.heap.size _ (w3.below dx2) dx2.size q).mono ?_
  rintro e x2 ⟨rfl, oY, h2⟩
  have d5 := dx2.trans (h2.mono (by omega))
  replace oX := oX.keep h2
  have hy2 := h2.size
  go_wp2_with fail
  refine (eq_ints (some ⟨wc3.heap.size, 0, none⟩) (some ⟨wcx2.heap.size, 0, none⟩) l3 l3 l3 z3 _ _ _ (oX.rowI HWf.out) (oY.rowI HWf.out)).mono ?_
  rintro e x3 ⟨rfl, h3⟩
  have d6 := d5.trans (h3.mono (by omega))
  go_wp2
  go_ret
  exact ⟨rfl, d6⟩

set_option maxRecDepth 100000 in
theorem lifted (os : Os) (started : os.Started) (H : Type) (enc : TypeId × Value → H) :
    ReturnsInHanded {} Try.checked os 10 .any (Rows.fnExactEdgeContrastSpec.pre6 enc Try.prog Try.f10 Rows.fnExactEdgeContrastRow.domain false) (Rows.fnExactEdgeContrastSpec.post enc Try.prog Try.f10 false true false false) := by
  refine returnsInHanded_of_change (C := Try.checked) own started (by kernel_rfl) Try.func10
    (ChangeSpec.witness6 (enc := enc) (C := Try.checked) false ⟨#[], #[.agg #[.int .i64 0, .int .i64 0, .int .i64 0], .agg #[.int .i64 0, .int .i64 0, .int .i64 0], .bool false, .slice none 0 0], []⟩ 8 (by kernel_rfl) (by kernel_rfl) (by kernel_rfl) (by kernel_rfl)) ?_
  intro W base args ds gs before hval0 hW hcnd _
  have hval : ∀ (j : Nat) t v, Try.f10.params[j]? = some t → args[j]? = some v → Value.okWide Try.prog W .any base t v := hval0
  have hW' := hW
  obtain ⟨p, q, hA0, hV, rfl, hfz, hnd⟩ := hW
  have hA : DataW.TrodAll enc Try.prog W 0 (fun _ => true) true Try.f10.params.toList args.toList ds p := hA0
  rw [Try.params10] at hA hval
  obtain ⟨v0, vs0, d0, ds0, p0, q0, hargs, rfl, rfl, h0, r0⟩ := trodAll_cons hA
  obtain ⟨v1, vs1, d1, ds1, p1, q1, rfl, rfl, rfl, h1, r1⟩ := trodAll_cons r0
  obtain ⟨v2, vs2, d2, ds2, p2, q2, rfl, rfl, rfl, h2, r2⟩ := trodAll_cons r1
  obtain ⟨v3, vs3, d3, ds3, p3, q3, rfl, rfl, rfl, h3, r3⟩ := trodAll_cons r2
  obtain ⟨rfl, rfl, rfl⟩ := trodAll_nil r3
  obtain rfl : args = #[v0, v1, v2, v3] := by cases args; simp_all
  obtain ⟨rfl, rfl⟩ := trodVars_none hV
  have k0 := h0
  have lt0 : ∀ x ∈ p0, x.block < W.heap.size := by obtain ⟨m, hm⟩ := k0; exact DataW.trod_lt m _ _ _ hm
  have k1 := h1
  have lt1 : ∀ x ∈ p1, x.block < W.heap.size := by obtain ⟨m, hm⟩ := k1; exact DataW.trod_lt m _ _ _ hm
  have k2 := h2
  have lt2 : ∀ x ∈ p2, x.block < W.heap.size := by obtain ⟨m, hm⟩ := k2; exact DataW.trod_lt m _ _ _ hm
  have k3 := h3
  have lt3 : ∀ x ∈ p3, x.block < W.heap.size := by obtain ⟨m, hm⟩ := k3; exact DataW.trod_lt m _ _ _ hm
  obtain ⟨x0_0, x0_1, x0_2, y0_0, y0_1, y0_2, m0, rfl, rfl, rfl, hy0_0, hy0_1, hy0_2⟩ := open_agg3 Try.underlying27 (by kernel_rfl) (by kernel_rfl) (hval 0 27 v0 rfl rfl) h0
  obtain ⟨b0_0, e0_0, _, g0_0⟩ := DataW.trod_int Try.underlying3 hy0_0
  simp at e0_0; subst e0_0
  obtain ⟨b0_1, e0_1, _, g0_1⟩ := DataW.trod_int Try.underlying3 hy0_1
  simp at e0_1; subst e0_1
  obtain ⟨b0_2, e0_2, _, g0_2⟩ := DataW.trod_int Try.underlying3 hy0_2
  simp at e0_2; subst e0_2
  obtain ⟨f0, w0, q0_0, q0_1, q0_2⟩ : ∃ f : Nat → Int, (∀ i, (Lit.int .i64 (f i)).wf = true) ∧ b0_0 = f 0 ∧ b0_1 = f 1 ∧ b0_2 = f 2 := ⟨fun i => match i with | 0 => b0_0 | 1 => b0_1 | 2 => b0_2 | _ => 0, fun i => by match i with | 0 => exact g0_0 | 1 => exact g0_1 | 2 => exact g0_2 | _ + 3 => rfl, rfl, rfl, rfl⟩
  subst q0_0 q0_1 q0_2
  obtain ⟨x1_0, x1_1, x1_2, y1_0, y1_1, y1_2, m1, rfl, rfl, rfl, hy1_0, hy1_1, hy1_2⟩ := open_agg3 Try.underlying27 (by kernel_rfl) (by kernel_rfl) (hval 1 27 v1 rfl rfl) h1
  obtain ⟨b1_0, e1_0, _, g1_0⟩ := DataW.trod_int Try.underlying3 hy1_0
  simp at e1_0; subst e1_0
  obtain ⟨b1_1, e1_1, _, g1_1⟩ := DataW.trod_int Try.underlying3 hy1_1
  simp at e1_1; subst e1_1
  obtain ⟨b1_2, e1_2, _, g1_2⟩ := DataW.trod_int Try.underlying3 hy1_2
  simp at e1_2; subst e1_2
  obtain ⟨f1, w1, q1_0, q1_1, q1_2⟩ : ∃ f : Nat → Int, (∀ i, (Lit.int .i64 (f i)).wf = true) ∧ b1_0 = f 0 ∧ b1_1 = f 1 ∧ b1_2 = f 2 := ⟨fun i => match i with | 0 => b1_0 | 1 => b1_1 | 2 => b1_2 | _ => 0, fun i => by match i with | 0 => exact g1_0 | 1 => exact g1_1 | 2 => exact g1_2 | _ + 3 => rfl, rfl, rfl, rfl⟩
  subst q1_0 q1_1 q1_2
  obtain ⟨a2, rfl, rfl, rfl⟩ := open_bool Try.underlying4 (hval 2 4 v2 rfl rfl) h2
  obtain ⟨a3, l3, c3, rfl⟩ := okWide_slice Try.underlying22 (hval 3 22 v3 rfl rfl)
  obtain ⟨z3, w3⟩ := open_rowI Try.underlying22 Try.underlying3 (by kernel_rfl) (h3)
  clear hA0 hval0
  refine (walk f0 f1 a2 a3 l3 c3 z3 W w0 w1 w3).mono fun e W' ⟨he, bel⟩ => ?_
  subst he
  exact ⟨_, rfl, _, _, _, [], _, [], hW', trodAll_mk1 (shut_bool Try.underlying4 _), (trodAll_cons_mk (Below.trod laidOut (by kernel_rfl) (of_decide_eq_true (by kernel_rfl)) k0 bel lt0) (trodAll_cons_mk (Below.trod laidOut (by kernel_rfl) (of_decide_eq_true (by kernel_rfl)) k1 bel lt1) (trodAll_cons_mk (Below.trod laidOut (by kernel_rfl) (of_decide_eq_true (by kernel_rfl)) k2 bel lt2) (trodAll_cons_mk (Below.trod laidOut (by kernel_rfl) (of_decide_eq_true (by kernel_rfl)) k3 bel lt3) trodAll_mk0)))), rfl, bel.frame _, fun h => by cases h⟩

theorem over : Rows.fnExactEdgeContrastRow.holds Try.pinned (OpenSpec.ofChange Rows.fnExactEdgeContrastSpec) :=
  OpenClaim.holds_of_wide 10 Try.f10 rfl rfl rfl rfl rfl rfl rfl ⟨rfl, rfl, rfl, rfl, rfl⟩ rfl rfl rfl rfl rfl (by kernel_rfl) Try.func10 (by kernel_rfl)
    (of_decide_eq_true (by kernel_rfl)) (by unfold Func.isWrapper; first | (rw [if_pos (by decide +kernel)]; kernel_rfl) | (rw [if_neg (by decide +kernel)]; exact ⟨rfl, rfl⟩))
    (fun os started H enc _ => lifted os started H enc)

/-- The statement. -/
theorem proved : Rows.FnExactEdgeContrastSaid := over
#print axioms proved
end Go.Proofs.Ythfhbcgnninlkaa.fnExactEdgeContrast
