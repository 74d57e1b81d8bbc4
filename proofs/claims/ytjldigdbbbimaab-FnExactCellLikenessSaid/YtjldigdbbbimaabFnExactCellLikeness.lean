/-
  The law FnExactCellLikeness: for every input the Go function returns true, and each argument reads afterwards as it read before.
  Conditions: none beyond the row's own.
-/
import Derived.Test.YtjldigdbbbimaabCell2
import Derived.ChangeOld
import Derived.Carry
namespace Go.Proofs.Ytjldigdbbbimaab.fnExactCellLikeness
open Go.ChangeShapes Go.WideShapes Go.ChangeAt Go.RowKit Go.Joins
open Go.ChangeMaps (open_string shut_string)
set_option linter.unusedVariables false

theorem own : ownKnob Try.prog.godebug = none := by kernel_rfl
theorem laidOut : laidOutB Try.prog = true := by kernel_rfl

theorem walk (f0 : Nat → Int) (f1 : Nat → Int) (w : World) (w0 : ∀ i, (Lit.int .i64 (f0 i)).wf = true) (w1 : ∀ i, (Lit.int .i64 (f1 i)).wf = true) :
    Calls Try.prog 7 #[.agg #[.int .i64 (f0 0), .int .i64 (f0 1), .int .i64 (f0 2)], .agg #[.int .i64 (f1 0), .int .i64 (f1 1), .int .i64 (f1 2)]] w fun e w' => e = .returned (.bool true) ∧ Below w.heap.size w w' := by
  clear w0 w1
  go_enter Try.func7, Try.ntmps7
  go_wp2_with fail
  obtain ⟨w2, hw2⟩ : ∃ w2, w2 = (w.alloc (.cells #[.int .i64 (f0 0), .int .i64 (f0 1), .int .i64 (f0 2)] 46)).alloc (.cells #[.int .i64 (f1 0), .int .i64 (f1 1), .int .i64 (f1 2)] 46) := ⟨_, rfl⟩
  have b2 : Below w.heap.size w w2 := by rw [hw2]; exact ((Below.refl _ _).alloc (Nat.le_refl _) _).alloc (by simp) _
  have hz : w.heap.size + 1 < w2.heap.size := by rw [hw2]; simp
  have fc0 : w2.cell? ⟨w.heap.size, 0, none⟩ = some (.int .i64 (f0 0)) := by rw [hw2]; go_simp
  have fc1 : w2.cell? ⟨w.heap.size, 1, none⟩ = some (.int .i64 (f0 1)) := by rw [hw2]; go_simp
  have fc2 : w2.cell? ⟨w.heap.size, 2, none⟩ = some (.int .i64 (f0 2)) := by rw [hw2]; go_simp
  have gc0 : w2.cell? ⟨w.heap.size + 1, 0, none⟩ = some (.int .i64 (f1 0)) := by rw [hw2]; go_simp
  have gc1 : w2.cell? ⟨w.heap.size + 1, 1, none⟩ = some (.int .i64 (f1 1)) := by rw [hw2]; go_simp
  have gc2 : w2.cell? ⟨w.heap.size + 1, 2, none⟩ = some (.int .i64 (f1 2)) := by rw [hw2]; go_simp
  rw [← hw2]
  clear hw2
  go_region_held3 (fun w' => w'.cell? ⟨w.heap.size, 0, none⟩ = some (.int .i64 (f0 0)) ∧ w'.cell? ⟨w.heap.size, 1, none⟩ = some (.int .i64 (f0 1)) ∧ w'.cell? ⟨w.heap.size, 2, none⟩ = some (.int .i64 (f0 2)) ∧ w'.cell? ⟨w.heap.size + 1, 0, none⟩ = some (.int .i64 (f1 0)) ∧ w'.cell? ⟨w.heap.size + 1, 1, none⟩ = some (.int .i64 (f1 1)) ∧ w'.cell? ⟨w.heap.size + 1, 2, none⟩ = some (.int .i64 (f1 2))) (first | go_keep | (exact ⟨s0, s1, s2, s3, s4, s5⟩)) (first | (go_at_call 27; ((with_reducible refine (to_cell f0 _).mono ?_); rintro e wc0 ⟨rfl, hbc0⟩); replace hbc0 := below_drew hbc0; obtain ⟨hcc0, hfc0⟩ := bcell hbc0; have zc0 := hbc0.size; have s0 := (hcc0 (w.heap.size) 0 (by omega)).trans fc0; have s1 := (hcc0 (w.heap.size) 1 (by omega)).trans fc1; have s2 := (hcc0 (w.heap.size) 2 (by omega)).trans fc2; have s3 := (hcc0 (w.heap.size + 1) 0 (by omega)).trans gc0; have s4 := (hcc0 (w.heap.size + 1) 1 (by omega)).trans gc1; have s5 := (hcc0 (w.heap.size + 1) 2 (by omega)).trans gc2) | (go_at_call 27; ((with_reducible refine (to_cell f1 _).mono ?_); rintro e wc1 ⟨rfl, hbc1⟩); obtain ⟨hcc1, hfc1⟩ := bcell hbc1; have zc1 := hbc1.size; have s0 := (hcc1 (w.heap.size) 0 (by omega)).trans s0; have s1 := (hcc1 (w.heap.size) 1 (by omega)).trans s1; have s2 := (hcc1 (w.heap.size) 2 (by omega)).trans s2; have s3 := (hcc1 (w.heap.size + 1) 0 (by omega)).trans s3; have s4 := (hcc1 (w.heap.size + 1) 1 (by omega)).trans s4; have s5 := (hcc1 (w.heap.size + 1) 2 (by omega)).trans s5) | (go_at_call 26; ((with_reducible refine (spec_cellLike f0 f1 _).mono ?_); rintro e wc2 ⟨rfl, hbc2⟩); obtain ⟨hcc2, hfc2⟩ := bcell hbc2; have zc2 := hbc2.size; have s0 := (hcc2 (w.heap.size) 0 (by omega)).trans s0; have s1 := (hcc2 (w.heap.size) 1 (by omega)).trans s1; have s2 := (hcc2 (w.heap.size) 2 (by omega)).trans s2; have s3 := (hcc2 (w.heap.size + 1) 0 (by omega)).trans s3; have s4 := (hcc2 (w.heap.size + 1) 1 (by omega)).trans s4; have s5 := (hcc2 (w.heap.size + 1) 2 (by omega)).trans s5))
  have b3 : Below w.heap.size w wc0 := b2.trans (hbc0.mono (by omega))
  have b4 : Below w.heap.size w wc1 := b3.trans (hbc1.mono (by omega))
  have b5 : Below w.heap.size w wc2 := b4.trans (hbc2.mono (by omega))
  have hz2 : w.heap.size + 1 < wc2.heap.size := by omega
  clear b2 b3 b4 hbc0 hbc1 hbc2 hcc0 hcc1 hcc2 hfc0 hfc1 hfc2 fc0 fc1 fc2 gc0 gc1 gc2 zc0 zc1 zc2 hz
  go_wp2_with fail
  go_region_held3 (fun w' => w'.cell? ⟨w.heap.size, 0, none⟩ = some (.int .i64 (f0 0)) ∧ w'.cell? ⟨w.heap.size, 1, none⟩ = some (.int .i64 (f0 1)) ∧ w'.cell? ⟨w.heap.size, 2, none⟩ = some (.int .i64 (f0 2)) ∧ w'.cell? ⟨w.heap.size + 1, 0, none⟩ = some (.int .i64 (f1 0)) ∧ w'.cell? ⟨w.heap.size + 1, 1, none⟩ = some (.int .i64 (f1 1)) ∧ w'.cell? ⟨w.heap.size + 1, 2, none⟩ = some (.int .i64 (f1 2))) (first | go_keep | (exact ⟨s0, s1, s2, s3, s4, s5⟩)) (first | (go_at_call 27; ((with_reducible refine (to_cell f0 _).mono ?_); rintro e wcx0 ⟨rfl, hbcx0⟩); replace hbcx0 := below_drew hbcx0; obtain ⟨hcc0, hfc0⟩ := bcell hbcx0; have zc0 := hbcx0.size; have s0 := (hcc0 (w.heap.size) 0 (by omega)).trans s0; have s1 := (hcc0 (w.heap.size) 1 (by omega)).trans s1; have s2 := (hcc0 (w.heap.size) 2 (by omega)).trans s2; have s3 := (hcc0 (w.heap.size + 1) 0 (by omega)).trans s3; have s4 := (hcc0 (w.heap.size + 1) 1 (by omega)).trans s4; have s5 := (hcc0 (w.heap.size + 1) 2 (by omega)).trans s5) | (go_at_call 27; ((with_reducible refine (to_cell f1 _).mono ?_); rintro e wcx1 ⟨rfl, hbcx1⟩); obtain ⟨hcc1, hfc1⟩ := bcell hbcx1; have zc1 := hbcx1.size; have s0 := (hcc1 (w.heap.size) 0 (by omega)).trans s0; have s1 := (hcc1 (w.heap.size) 1 (by omega)).trans s1; have s2 := (hcc1 (w.heap.size) 2 (by omega)).trans s2; have s3 := (hcc1 (w.heap.size + 1) 0 (by omega)).trans s3; have s4 := (hcc1 (w.heap.size + 1) 1 (by omega)).trans s4; have s5 := (hcc1 (w.heap.size + 1) 2 (by omega)).trans s5) | (go_at_call 28; ((with_reducible refine (impl_cellLike f0 f1 _).mono ?_); rintro e wcx2 ⟨rfl, hbcx2⟩); obtain ⟨hcc2, hfc2⟩ := bcell hbcx2; have zc2 := hbcx2.size; have s0 := (hcc2 (w.heap.size) 0 (by omega)).trans s0; have s1 := (hcc2 (w.heap.size) 1 (by omega)).trans s1; have s2 := (hcc2 (w.heap.size) 2 (by omega)).trans s2; have s3 := (hcc2 (w.heap.size + 1) 0 (by omega)).trans s3; have s4 := (hcc2 (w.heap.size + 1) 1 (by omega)).trans s4; have s5 := (hcc2 (w.heap.size + 1) 2 (by omega)).trans s5))
  have b3 : Below w.heap.size w wcx0 := b5.trans (hbcx0.mono (by omega))
  have b4 : Below w.heap.size w wcx1 := b3.trans (hbcx1.mono (by omega))
  have b6 : Below w.heap.size w wcx2 := b4.trans (hbcx2.mono (by omega))
  clear b3 b4 b5 hbcx0 hbcx1 hbcx2 hcc0 hcc1 hcc2 hfc0 hfc1 hfc2 zc0 zc1 zc2
  go_wp2
  go_ret
  exact ⟨rfl, b6⟩

set_option maxRecDepth 100000 in
theorem lifted (os : Os) (started : os.Started) (H : Type) (enc : TypeId × Value → H) :
    ReturnsInHanded {} Try.checked os 7 .any (Rows.fnExactCellLikenessSpec.pre6 enc Try.prog Try.f7 Rows.fnExactCellLikenessRow.domain false) (Rows.fnExactCellLikenessSpec.post enc Try.prog Try.f7 false true false false) := by
  refine returnsInHanded_of_change (C := Try.checked) own started (by kernel_rfl) Try.func7
    (ChangeSpec.witness6 (enc := enc) (C := Try.checked) false ⟨#[], #[.agg #[.int .i64 0, .int .i64 0, .int .i64 0], .agg #[.int .i64 0, .int .i64 0, .int .i64 0]], []⟩ 8 (by kernel_rfl) (by kernel_rfl) (by kernel_rfl) (by kernel_rfl)) ?_
  intro W base args ds gs before hval0 hW hcnd _
  have hval : ∀ (j : Nat) t v, Try.f7.params[j]? = some t → args[j]? = some v → Value.okWide Try.prog W .any base t v := hval0
  have hW' := hW
  obtain ⟨p, q, hA0, hV, rfl, hfz, hnd⟩ := hW
  have hA : DataW.TrodAll enc Try.prog W 0 (fun _ => true) true Try.f7.params.toList args.toList ds p := hA0
  rw [Try.params7] at hA hval
  obtain ⟨v0, vs0, d0, ds0, p0, q0, hargs, rfl, rfl, h0, r0⟩ := trodAll_cons hA
  obtain ⟨v1, vs1, d1, ds1, p1, q1, rfl, rfl, rfl, h1, r1⟩ := trodAll_cons r0
  obtain ⟨rfl, rfl, rfl⟩ := trodAll_nil r1
  obtain rfl : args = #[v0, v1] := by cases args; simp_all
  obtain ⟨rfl, rfl⟩ := trodVars_none hV
  have k0 := h0
  have lt0 : ∀ x ∈ p0, x.block < W.heap.size := by obtain ⟨m, hm⟩ := k0; exact DataW.trod_lt m _ _ _ hm
  have k1 := h1
  have lt1 : ∀ x ∈ p1, x.block < W.heap.size := by obtain ⟨m, hm⟩ := k1; exact DataW.trod_lt m _ _ _ hm
  obtain ⟨x0_0, x0_1, x0_2, y0_0, y0_1, y0_2, m0, rfl, rfl, rfl, hy0_0, hy0_1, hy0_2⟩ := open_agg3 Try.underlying46 (by kernel_rfl) (by kernel_rfl) (hval 0 46 v0 rfl rfl) h0
  obtain ⟨b0_0, e0_0, _, g0_0⟩ := DataW.trod_int Try.underlying3 hy0_0
  simp at e0_0; subst e0_0
  obtain ⟨b0_1, e0_1, _, g0_1⟩ := DataW.trod_int Try.underlying3 hy0_1
  simp at e0_1; subst e0_1
  obtain ⟨b0_2, e0_2, _, g0_2⟩ := DataW.trod_int Try.underlying3 hy0_2
  simp at e0_2; subst e0_2
  obtain ⟨f0, w0, q0_0, q0_1, q0_2⟩ : ∃ f : Nat → Int, (∀ i, (Lit.int .i64 (f i)).wf = true) ∧ b0_0 = f 0 ∧ b0_1 = f 1 ∧ b0_2 = f 2 := ⟨fun i => match i with | 0 => b0_0 | 1 => b0_1 | 2 => b0_2 | _ => 0, fun i => by match i with | 0 => exact g0_0 | 1 => exact g0_1 | 2 => exact g0_2 | _ + 3 => rfl, rfl, rfl, rfl⟩
  subst q0_0 q0_1 q0_2
  obtain ⟨x1_0, x1_1, x1_2, y1_0, y1_1, y1_2, m1, rfl, rfl, rfl, hy1_0, hy1_1, hy1_2⟩ := open_agg3 Try.underlying46 (by kernel_rfl) (by kernel_rfl) (hval 1 46 v1 rfl rfl) h1
  obtain ⟨b1_0, e1_0, _, g1_0⟩ := DataW.trod_int Try.underlying3 hy1_0
  simp at e1_0; subst e1_0
  obtain ⟨b1_1, e1_1, _, g1_1⟩ := DataW.trod_int Try.underlying3 hy1_1
  simp at e1_1; subst e1_1
  obtain ⟨b1_2, e1_2, _, g1_2⟩ := DataW.trod_int Try.underlying3 hy1_2
  simp at e1_2; subst e1_2
  obtain ⟨f1, w1, q1_0, q1_1, q1_2⟩ : ∃ f : Nat → Int, (∀ i, (Lit.int .i64 (f i)).wf = true) ∧ b1_0 = f 0 ∧ b1_1 = f 1 ∧ b1_2 = f 2 := ⟨fun i => match i with | 0 => b1_0 | 1 => b1_1 | 2 => b1_2 | _ => 0, fun i => by match i with | 0 => exact g1_0 | 1 => exact g1_1 | 2 => exact g1_2 | _ + 3 => rfl, rfl, rfl, rfl⟩
  subst q1_0 q1_1 q1_2
  clear hA0 hval0
  refine (walk f0 f1 W w0 w1).mono fun e W' ⟨he, bel⟩ => ?_
  subst he
  exact ⟨_, rfl, _, _, _, [], _, [], hW', trodAll_mk1 (shut_bool Try.underlying4 _), (trodAll_cons_mk (Below.trod laidOut (by kernel_rfl) (of_decide_eq_true (by kernel_rfl)) k0 bel lt0) (trodAll_cons_mk (Below.trod laidOut (by kernel_rfl) (of_decide_eq_true (by kernel_rfl)) k1 bel lt1) trodAll_mk0)), rfl, bel.frame _, fun h => by cases h⟩

theorem over : Rows.fnExactCellLikenessRow.holds Try.pinned (OpenSpec.ofChange Rows.fnExactCellLikenessSpec) :=
  OpenClaim.holds_of_wide 7 Try.f7 rfl rfl rfl rfl rfl rfl rfl ⟨rfl, rfl, rfl, rfl, rfl⟩ rfl rfl rfl rfl rfl (by kernel_rfl) Try.func7 (by kernel_rfl)
    (of_decide_eq_true (by kernel_rfl)) (by unfold Func.isWrapper; first | (rw [if_pos (by decide +kernel)]; kernel_rfl) | (rw [if_neg (by decide +kernel)]; exact ⟨rfl, rfl⟩))
    (fun os started H enc _ => lifted os started H enc)

/-- The statement. -/
theorem proved : Rows.FnExactCellLikenessSaid := over
#print axioms proved
end Go.Proofs.Ytjldigdbbbimaab.fnExactCellLikeness
