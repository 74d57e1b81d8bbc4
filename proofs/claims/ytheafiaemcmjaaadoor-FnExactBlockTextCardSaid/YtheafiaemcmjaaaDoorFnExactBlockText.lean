/-
  The law FnExactBlockText: for every input the Go function returns true, and each argument reads afterwards as it read before.
  Conditions: none beyond the row's own.
-/
import Derived.Test.YtheafiaemcmjaaaDoorBTx
import Derived.Test.YtheafiaemcmjaaaDoorBlocks
import Derived.Test.YtheafiaemcmjaaaDoorBoxV
import Derived.Test.YtheafiaemcmjaaaDoorTie
import Derived.Test.YtheafiaemcmjaaaDoorCards
import Derived.ChangeOld
import Derived.Carry
import Derived.Lay
import Derived.LaidMore
import Derived.SevenTiedAt
import Derived.Stop.Joined
namespace Go.Proofs.YtheafiaemcmjaaaDoor.fnExactBlockText
open Go.ChangeShapes Go.WideShapes Go.ChangeAt Go.RowKit Go.Joins
open Go.ChangeMaps (open_string shut_string)
set_option linter.unusedVariables false

theorem own : ownKnob Tryd.prog.godebug = none := by kernel_rfl
theorem laidOut : laidOutB Tryd.prog = true := by kernel_rfl

set_option maxHeartbeats 8000000 in
theorem walk (a0_0 : Int) (a0_1 : Option Addr) (l0_1 c0_1 : Nat) (f0_1 : Nat → Nat → Int) (w : World) (w0_0 : (Lit.int .i64 a0_0).wf = true) (w0_1 : RowS 3 w w.heap.size a0_1 l0_1 c0_1 f0_1) :
    Calls Tryd.prog 5 #[.agg #[.int .i64 a0_0, .slice a0_1 l0_1 c0_1]] w fun e w' => e = .returned (.bool true) ∧ Below w.heap.size w w' := by
  clear w0_0
  have hcap := w0_1.cap
  unfold maxLen at hcap
  have p0 := w0_1.rowP
  have HF0 : Hid (∀ i, i < l0_1 → ∀ j, j < 3 → (Lit.int .i64 (f0_1 i j)).wf = true) := Lib.hid fun i _ j _ => w0_1.wf i j
  have b0 : Below w.heap.size w (w.alloc (.cells #[.int .i64 a0_0, .slice a0_1 l0_1 c0_1] 41)) := (Below.refl _ _).alloc (Nat.le_refl _) _
  have box0 : BoxV (w.alloc (.cells #[.int .i64 a0_0, .slice a0_1 l0_1 c0_1] 41)) w.heap.size [.int .i64 a0_0, .slice a0_1 l0_1 c0_1] := boxV_new w [.int .i64 a0_0, .slice a0_1 l0_1 c0_1] 41
  clear w0_1
  obtain ⟨w2, hw2⟩ : ∃ w2, w2 = (w.alloc (.cells #[.int .i64 a0_0, .slice a0_1 l0_1 c0_1] 41)) := ⟨_, rfl⟩
  rw [← hw2] at b0 box0
  have z2 := box0.1
  go_enter Tryd.func5, Tryd.ntmps5
  have box0_z := box0.1
  have box0_0 := box0.2 0 _ rfl
  have box0_1 := box0.2 1 _ rfl
  go_wp2_with fail
  rw [← hw2]
  clear hw2
  clear box0_z box0_0 box0_1
  refine (sz_block a0_0 a0_1 l0_1 c0_1 1048576 _ (by omega) (by omega) (by omega)).mono ?_
  rintro e x1 ⟨rfl, h1⟩
  have b1 : Below w.heap.size w x1 := b0.trans (h1.mono (by have := b0.size; omega))
  replace box0 := box0.below h1 (by have := box0.1; omega)
  rcases (by omega : 1048576 < l0_1 ∨ l0_1 ≤ 1048576) with q0 | q0
  · rw [if_pos (by omega)]
    go_wp2
    go_ret
    exact ⟨rfl, b1⟩
  rw [if_neg (by omega)]
  have box0_z := box0.1
  have box0_0 := box0.2 0 _ rfl
  have box0_1 := box0.2 1 _ rfl
  go_wp2_with fail
  clear box0_z box0_0 box0_1
  refine (to_block a0_0 a0_1 l0_1 c0_1 f0_1 w.heap.size _ (p0.below b1) b1.size q0).mono ?_
  rintro e x2 ⟨gP, rfl, oP, h2⟩
  have b2 : Below w.heap.size w x2 := b1.trans (h2.mono (by have := b1.size; omega))
  replace box0 := box0.below h2 (by have := box0.1; omega)
  have box0_z := box0.1
  have box0_0 := box0.2 0 _ rfl
  have box0_1 := box0.2 1 _ rfl
  go_wp2_with fail
  clear box0_z box0_0 box0_1
  refine (spec_blockTx a0_0 (some ⟨gP, 0, none⟩) l0_1 l0_1 f0_1 _ _ (oP.rowP HF0.out) (Nat.le_refl _)).mono ?_
  rintro e x3 ⟨rfl, h3⟩
  have b3 : Below w.heap.size w x3 := b2.trans (h3.mono (by have := b2.size; omega))
  replace box0 := box0.below h3 (by have := box0.1; omega)
  replace oP := oP.keep h3
  have box0_z := box0.1
  have box0_0 := box0.2 0 _ rfl
  have box0_1 := box0.2 1 _ rfl
  go_wp2_with fail
  clear box0_z box0_0 box0_1
  refine (to_block a0_0 a0_1 l0_1 c0_1 f0_1 w.heap.size _ (p0.below b3) b3.size q0).mono ?_
  rintro e x4 ⟨gX, rfl, oX, h4⟩
  have b4 : Below w.heap.size w x4 := b3.trans (h4.mono (by have := b3.size; omega))
  replace box0 := box0.below h4 (by have := box0.1; omega)
  replace oP := oP.keep h4
  have box0_z := box0.1
  have box0_0 := box0.2 0 _ rfl
  have box0_1 := box0.2 1 _ rfl
  obtain ⟨y4, hw4⟩ : ∃ y, y = x4.alloc (.cells #[.int .i64 a0_0, .slice (some ⟨gX, 0, none⟩) l0_1 l0_1] 46) := ⟨_, rfl⟩
  have n4 : Below x4.heap.size x4 y4 := by rw [hw4]; exact (Below.refl _ _).alloc (Nat.le_refl _) _
  have bX : BoxV y4 x4.heap.size [.int .i64 a0_0, .slice (some ⟨gX, 0, none⟩) l0_1 l0_1] := by rw [hw4]; exact boxV_new _ _ _
  go_wp2_with fail
  rw [← hw4]
  clear hw4
  clear box0_z box0_0 box0_1
  have e4 := n4.size
  have bn4 : Below w.heap.size w y4 := b4.trans (n4.mono (by have := b4.size; omega))
  replace box0 := box0.below n4 (by have := box0.1; omega)
  replace oP := oP.keep n4
  replace oX := oX.keep n4
  refine (impl_blockTx a0_0 (some ⟨gX, 0, none⟩) l0_1 l0_1 f0_1 _ _ (oX.rowP HF0.out) (Nat.le_refl _)).mono ?_
  rintro e x5 ⟨rfl, h5⟩
  have b5 : Below w.heap.size w x5 := bn4.trans (h5.mono (by have := bn4.size; omega))
  replace box0 := box0.below h5 (by have := box0.1; omega)
  replace bX := bX.below h5 (by have := bX.1; omega)
  replace oP := oP.keep h5
  replace oX := oX.keep h5
  have box0_z := box0.1
  have box0_0 := box0.2 0 _ rfl
  have box0_1 := box0.2 1 _ rfl
  have bX_z := bX.1
  have bX_0 := bX.2 0 _ rfl
  have bX_1 := bX.2 1 _ rfl
  go_wp2_with fail
  go_region_held3 (fun w' => w'.cell? ⟨x4.heap.size, 0, none⟩ = some (.int .i64 a0_0) ∧ w'.cell? ⟨x4.heap.size, 1, none⟩ = some (.slice (some ⟨gX, 0, none⟩) l0_1 l0_1) ∧ w'.cell? ⟨w.heap.size, 0, none⟩ = some (.int .i64 a0_0) ∧ w'.cell? ⟨w.heap.size, 1, none⟩ = some (.slice a0_1 l0_1 c0_1)) (first | go_keep | (exact ⟨s0, s1, s2, s3⟩)) (first | (go_at_call 19; ((with_reducible refine (to_block a0_0 a0_1 l0_1 c0_1 f0_1 w.heap.size _ (p0.below b5.drew) b5.drew.size q0).mono ?_); rintro e x6 ⟨gZ, rfl, oZ, h6⟩); replace h6 := below_drew h6; have u6 := h6.size; have s0 := (h6.cell (p := ⟨x4.heap.size, 0, none⟩) (by show x4.heap.size < _; omega)).trans bX_0; have s1 := (h6.cell (p := ⟨x4.heap.size, 1, none⟩) (by show x4.heap.size < _; omega)).trans bX_1; have s2 := (h6.cell (p := ⟨w.heap.size, 0, none⟩) (by show w.heap.size < _; omega)).trans box0_0; have s3 := (h6.cell (p := ⟨w.heap.size, 1, none⟩) (by show w.heap.size < _; omega)).trans box0_1; have b6 : Below w.heap.size w x6 := b5.trans (h6.mono (by have := b5.size; omega)); replace box0 := box0.below h6 (by have := box0.1; omega); replace bX := bX.below h6 (by have := bX.1; omega); replace oP := oP.keep h6; replace oX := oX.keep h6) | (go_at_call 21; ((with_reducible refine (eq_block a0_0 (some ⟨gX, 0, none⟩) (some ⟨gZ, 0, none⟩) l0_1 l0_1 l0_1 f0_1 _ _ (oX.rowP HF0.out) (oZ.rowP HF0.out) (Nat.le_refl _)).mono ?_); rintro e x7 ⟨rfl, h7⟩); have u7 := h7.size; have s0 := (h7.cell (p := ⟨x4.heap.size, 0, none⟩) (by show x4.heap.size < _; omega)).trans s0; have s1 := (h7.cell (p := ⟨x4.heap.size, 1, none⟩) (by show x4.heap.size < _; omega)).trans s1; have s2 := (h7.cell (p := ⟨w.heap.size, 0, none⟩) (by show w.heap.size < _; omega)).trans s2; have s3 := (h7.cell (p := ⟨w.heap.size, 1, none⟩) (by show w.heap.size < _; omega)).trans s3; have b7 : Below w.heap.size w x7 := b6.trans (h7.mono (by have := b6.size; omega)); replace box0 := box0.below h7 (by have := box0.1; omega); replace bX := bX.below h7 (by have := bX.1; omega); replace oP := oP.keep h7; replace oX := oX.keep h7; replace oZ := oZ.keep h7))
  clear s0 s1 s2 s3
  clear box0_z box0_0 box0_1
  clear bX_z bX_0 bX_1
  go_wp2
  go_ret
  exact ⟨rfl, b7⟩

set_option maxRecDepth 100000 in
theorem lifted (os : Os) (started : os.Started) (H : Type) (enc : TypeId × Value → H) :
    ReturnsInHanded {} Tryd.checked os 5 .any (fun w args => (Rows.fnExactBlockTextSpec.pre enc Tryd.prog Tryd.f5 [] false w args ∧ laidMetH Tryd.prog Rows.fnExactBlockTextRow.laid w) ∧ sizedMet enc Tryd.prog Tryd.f5 (OpenSpec.ofChange Rows.fnExactBlockTextSpec) false w args) (Rows.fnExactBlockTextSpec.post enc Tryd.prog Tryd.f5 false true false false) := by
  refine returnsInHanded_of_change_and (C := Tryd.checked) (X := fun w _ => laidMetH Tryd.prog Rows.fnExactBlockTextRow.laid w) (fun _ _ _ hh h => h.of_heap hh) own started (by kernel_rfl) Tryd.func5
    (ChangeSpec.witness_shaped (enc := enc) (C := Tryd.checked) (os := os) (X := fun w _ => laidMetH Tryd.prog Rows.fnExactBlockTextRow.laid w) false (World.laidAll Tryd.prog os Rows.fnExactBlockTextRow.laid) #[.agg #[.int .i64 0, .slice none 0 0]] 8 (World.laidAll_os _ _ _)
      (World.shaped_of_ZipB (by kernel_rfl) (by kernel_rfl)) (by kernel_rfl) (by kernel_rfl) (by kernel_rfl)
      (by rw [MakeChecks.laidMetH_plain _ _ _ (by kernel_rfl)]; exact laidMet_laidAll _ (by kernel_rfl) (by kernel_rfl))) ?_
  intro W base args ds gs before hval0 hW hcnd hsz hL hsh
  have hval : ∀ (j : Nat) t v, Tryd.f5.params[j]? = some t → args[j]? = some v → Value.okWide Tryd.prog W .any base t v := hval0
  have hW' := hW
  obtain ⟨p, q, hA0, hV, rfl, hfz, hnd⟩ := hW
  have hA : DataW.TrodAll enc Tryd.prog W 0 (fun _ => true) true Tryd.f5.params.toList args.toList ds p := hA0
  rw [Tryd.params5] at hA hval
  obtain ⟨v0, vs0, d0, ds0, p0, q0, hargs, rfl, rfl, h0, r0⟩ := trodAll_cons hA
  obtain ⟨rfl, rfl, rfl⟩ := trodAll_nil r0
  obtain rfl : args = #[v0] := by cases args; simp_all
  obtain ⟨rfl, rfl⟩ := trodVars_none hV
  have k0 := h0
  have lt0 : ∀ x ∈ p0, x.block < W.heap.size := by obtain ⟨m, hm⟩ := k0; exact DataW.trod_lt m _ _ _ hm
  obtain ⟨x0_0, x0_1, y0_0, y0_1, m0, rfl, rfl, rfl, hy0_0, hy0_1⟩ := open_agg2 Tryd.underlying41 (by kernel_rfl) (by kernel_rfl) (hval 0 41 v0 rfl rfl) h0
  obtain ⟨a0_0, e0_0, _, w0_0⟩ := DataW.trod_int Tryd.underlying3 hy0_0
  simp at e0_0; subst e0_0
  obtain ⟨a0_1, l0_1, c0_1, e0_1⟩ := cell_slice Tryd.underlying39 hy0_1
  subst e0_1
  obtain ⟨f0_1, w0_1⟩ := open_rowS (m := 3) Tryd.underlying39 Tryd.underlying93 (by kernel_rfl) rfl (by kernel_rfl) (by kernel_rfl) (by decide) (⟨m0, by simpa [Value.cells] using hy0_1⟩)
  clear hA0 hval0
  refine (walk a0_0 a0_1 l0_1 c0_1 f0_1 W w0_0 w0_1).mono fun e W' ⟨he, bel⟩ => ?_
  subst he
  exact ⟨_, rfl, _, _, _, [], _, [], hW', trodAll_mk1 (shut_bool Tryd.underlying4 _), (trodAll_cons_mk (Below.trod laidOut (by kernel_rfl) (of_decide_eq_true (by kernel_rfl)) k0 bel lt0) trodAll_mk0), rfl, bel.frame _, fun h => by cases h⟩

theorem over : Rows.fnExactBlockTextRow.holds Tryd.pinned (OpenSpec.ofChange Rows.fnExactBlockTextSpec) :=
  OpenClaim.holds_of_wide 5 Tryd.f5 rfl rfl rfl rfl rfl rfl rfl ⟨rfl, rfl, rfl, rfl, rfl⟩ rfl rfl rfl rfl rfl (by kernel_rfl) Tryd.func5 (by kernel_rfl)
    (of_decide_eq_true (by kernel_rfl)) (by unfold Func.isWrapper; first | (rw [if_pos (by decide +kernel)]; kernel_rfl) | (rw [if_neg (by decide +kernel)]; exact ⟨rfl, rfl⟩))
    (fun os started H enc _ => lifted os started H enc)

/-- The statement: the row tied to the program's text. -/
theorem proved : Rows.FnExactBlockTextCardSaid :=
  Claim7.holds_tied_plain_at .later [] _ true _ false over (fun _ h => by cases h) (by kernel_rfl) (fun _ h => by cases h) fnExactBlockText_row_tie rfl ⟨rfl, rfl⟩ (by kernel_rfl) rfl
    (fun f fn hf hfn => by
      obtain rfl : f = 5 := Option.some.inj ((show Tryd.prog.funcNamed Tryd.f5.name = some 5 by kernel_rfl).symm.trans hf) |>.symm
      obtain rfl : fn = Tryd.f5 := (Option.some.inj (Tryd.func5.symm.trans hfn)).symm
      exact ⟨by kernel_rfl, fun j t ht => by
        rw [Tryd.params5] at ht
        have hm : t ∈ [41] := by simpa using Array.mem_of_getElem? ht
        have hall : ([41].all fun u => !Tryd.prog.wantsStandIn u) = true := by kernel_rfl
        exact (show Tryd.prog.wantsStandIn t = false by simpa using List.all_eq_true.1 hall t hm)⟩)
    (by kernel_rfl)
#print axioms proved
end Go.Proofs.YtheafiaemcmjaaaDoor.fnExactBlockText
