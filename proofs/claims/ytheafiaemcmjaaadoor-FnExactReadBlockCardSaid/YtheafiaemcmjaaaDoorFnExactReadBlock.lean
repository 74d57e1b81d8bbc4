/-
  The law FnExactReadBlock: for every input the Go function returns true, and each argument reads afterwards as it read before.
  Conditions: none beyond the row's own.
-/
import Derived.Test.YtheafiaemcmjaaaDoorRbI
import Derived.Test.YtheafiaemcmjaaaDoorHeldB
import Derived.Test.YtheafiaemcmjaaaDoorWrap
import Derived.Test.YtheafiaemcmjaaaDoorBoxV
import Derived.Test.YtheafiaemcmjaaaDoorTie
import Derived.Test.YtheafiaemcmjaaaDoorCards
import Derived.ChangeOld
import Derived.Carry
import Derived.Lay
import Derived.LaidMore
import Derived.SevenTiedAt
import Derived.Stop.Joined
namespace Go.Proofs.YtheafiaemcmjaaaDoor.fnExactReadBlock
open Go.ChangeShapes Go.WideShapes Go.ChangeAt Go.RowKit Go.Joins
open Go.ChangeMaps (open_string shut_string)
set_option linter.unusedVariables false

theorem own : ownKnob Tryd.prog.godebug = none := by kernel_rfl
theorem laidOut : laidOutB Tryd.prog = true := by kernel_rfl

set_option maxRecDepth 100000 in
set_option maxHeartbeats 8000000 in
theorem walk (s0 : ByteArray) (w : World) (mx : Int) (hmx : w.cell? ⟨0, 0, none⟩ = some (.int .i64 mx)) (w0 : s0.size ≤ maxLen) :
    Calls Tryd.prog 7 #[.string s0] w fun e w' => e = .returned (.bool true) ∧ Below w.heap.size w w' := by
  unfold maxLen at w0
  obtain ⟨l, hl⟩ : ∃ l, l = s0.data.toList := ⟨_, rfl⟩
  obtain rfl : s0 = strB l := by rw [hl, strB_self]
  clear hl
  rcases (by omega : 1048576 < ((strB l).size : Int) ∨ ((strB l).size : Int) ≤ 1048576) with hbig | hbig
  · go_enter Tryd.func7, Tryd.ntmps7
    go_wp2
    go_ret
    exact ⟨rfl, Below.refl _ _⟩
  have hl : l.length ≤ 1048576 := by have := strB_size l; omega
  have HWF : Hid (∀ a, a < rbN l → ∀ j, j < 3 → (Lit.int .i64 (bF l a j)).wf = true) := Lib.hid (bF_wf3 l)
  have hn : rbN l ≤ 100 := rbN_bd l
  have b0 : Below w.heap.size w w := Below.refl _ _
  have hmz : 0 < w.heap.size := World.block_lt_of_cell? w _ hmx
  have HMX := Lib.hid hmx
  clear hmx
  go_enter Tryd.func7, Tryd.ntmps7
  go_wp2_with fail
  refine (spec_readB l _ hl).mono ?_
  rintro e x1 ⟨AW, cW, rfl, oW, h1⟩
  have b1 : Below w.heap.size w x1 := b0.trans (h1.mono (by have := b0.size; omega))
  have tW : ∀ k, blk AW = some k → w.heap.size ≤ k ∧ k < x1.heap.size := oW.ge'
  obtain ⟨y1, hw1⟩ : ∃ y, y = x1.alloc (.cells #[.int .i64 (rbS l), .slice AW (rbN l) cW] 46) := ⟨_, rfl⟩
  have n1 : Below x1.heap.size x1 y1 := by rw [hw1]; exact (Below.refl _ _).alloc (Nat.le_refl _) _
  have bW : BoxV y1 x1.heap.size [.int .i64 (rbS l), .slice AW (rbN l) cW] := by rw [hw1]; exact boxV_new _ _ _
  go_wp2_with fail
  rw [← hw1]
  clear hw1
  have e1 := n1.size
  have bn1 : Below w.heap.size w y1 := b1.trans (n1.mono (by have := b1.size; omega))
  replace oW := oW.keep n1
  have f1 := bW.1
  refine (impl_readB l mx _ hl ((bn1.cell (p := ⟨0, 0, none⟩) (by show 0 < w.heap.size; exact hmz)).trans HMX.out)).mono ?_
  rintro e x2 ⟨AG, cG, rfl, oG, h2⟩
  have b2 : Below w.heap.size w x2 := bn1.trans (h2.mono (by have := bn1.size; omega))
  replace bW := bW.below h2 (by have := bW.1; omega)
  replace oW := oW.keep h2
  have tG : ∀ k, blk AG = some k → y1.heap.size ≤ k ∧ k < x2.heap.size := oG.ge'
  have bW_z := bW.1
  have bW_0 := bW.2 0 _ rfl
  have bW_1 := bW.2 1 _ rfl
  obtain ⟨y2, hw2⟩ : ∃ y, y = x2.alloc (.cells #[.int .i64 (rbS l), .slice AG (rbN l) cG] 46) := ⟨_, rfl⟩
  have n2 : Below x2.heap.size x2 y2 := by rw [hw2]; exact (Below.refl _ _).alloc (Nat.le_refl _) _
  have bG : BoxV y2 x2.heap.size [.int .i64 (rbS l), .slice AG (rbN l) cG] := by rw [hw2]; exact boxV_new _ _ _
  go_wp2_with fail
  rw [← hw2]
  clear hw2
  clear bW_z bW_0 bW_1
  have e2 := n2.size
  have bn2 : Below w.heap.size w y2 := b2.trans (n2.mono (by have := b2.size; omega))
  replace bW := bW.below n2 (by have := bW.1; omega)
  replace oW := oW.keep n2
  replace oG := oG.keep n2
  have f2 := bG.1
  refine (eq_block (rbS l) AG AW (rbN l) cG cW (bF l) _ _ (oG.rowP HWF.out) (oW.rowP HWF.out) (Nat.le_refl _)).mono ?_
  rintro e x3 ⟨rfl, h3⟩
  have b3 : Below w.heap.size w x3 := bn2.trans (h3.mono (by have := bn2.size; omega))
  replace bW := bW.below h3 (by have := bW.1; omega)
  replace bG := bG.below h3 (by have := bG.1; omega)
  replace oW := oW.keep h3
  replace oG := oG.keep h3
  rcases (Bool.eq_false_or_eq_true (readB l)).symm with r | r
  · rw [r]
    have bW_z := bW.1
    have bW_0 := bW.2 0 _ rfl
    have bW_1 := bW.2 1 _ rfl
    have bG_z := bG.1
    have bG_0 := bG.2 0 _ rfl
    have bG_1 := bG.2 1 _ rfl
    go_wp2_with fail
    clear bW_z bW_0 bW_1
    clear bG_z bG_0 bG_1
    refine (mark_block (rbS l) AG (rbN l) cG (bF l) _ 1 _ oG (by omega) (by omega) (by omega)).mono ?_
    rintro e x4 ⟨rfl, pG, g4⟩
    have b4 : Below w.heap.size w x4 := b3.grown g4 b3.size (fun k hk => by have := tG k hk; have := b1.size; omega)
    replace bW := bW.apart g4 (fun e => by have := tG _ e.symm; omega)
    replace bG := bG.apart g4 (fun e => by have := tG _ e.symm; have := bW.1; omega)
    replace oW := oW.apart g4 (fun k hk hk' => by have := tG k hk'; have := tW k hk; omega)
    have u4 := g4.size
    clear oG g4
    have oG := pG
    clear pG
    have bW_z := bW.1
    have bW_0 := bW.2 0 _ rfl
    have bW_1 := bW.2 1 _ rfl
    have bG_z := bG.1
    have bG_0 := bG.2 0 _ rfl
    have bG_1 := bG.2 1 _ rfl
    go_wp2_with fail
    clear bW_z bW_0 bW_1
    clear bG_z bG_0 bG_1
    refine (held_block (rbS l) AG (rbN l) cG 1 _ _ (oG.rowP (marksS_wf (by omega) (by omega) (by omega))) (Nat.le_refl _) (by omega) (by omega) (by omega)).mono ?_
    rintro e x5 ⟨rfl, h5⟩
    have b5 : Below w.heap.size w x5 := b4.trans (h5.mono (by have := b4.size; omega))
    replace bW := bW.below h5 (by have := bW.1; omega)
    replace bG := bG.below h5 (by have := bG.1; omega)
    replace oW := oW.keep h5
    replace oG := oG.keep h5
    have bW_z := bW.1
    have bW_0 := bW.2 0 _ rfl
    have bW_1 := bW.2 1 _ rfl
    have bG_z := bG.1
    have bG_0 := bG.2 0 _ rfl
    have bG_1 := bG.2 1 _ rfl
    go_wp2_with fail
    clear bW_z bW_0 bW_1
    clear bG_z bG_0 bG_1
    refine (impl_readB l mx _ hl ((b5.cell (p := ⟨0, 0, none⟩) (by show 0 < w.heap.size; exact hmz)).trans HMX.out)).mono ?_
    rintro e x6 ⟨AH, cH, rfl, oH, h6⟩
    have b6 : Below w.heap.size w x6 := b5.trans (h6.mono (by have := b5.size; omega))
    replace bW := bW.below h6 (by have := bW.1; omega)
    replace bG := bG.below h6 (by have := bG.1; omega)
    replace oW := oW.keep h6
    replace oG := oG.keep h6
    have tH : ∀ k, blk AH = some k → x5.heap.size ≤ k ∧ k < x6.heap.size := oH.ge'
    have bW_z := bW.1
    have bW_0 := bW.2 0 _ rfl
    have bW_1 := bW.2 1 _ rfl
    have bG_z := bG.1
    have bG_0 := bG.2 0 _ rfl
    have bG_1 := bG.2 1 _ rfl
    obtain ⟨y6, hw6⟩ : ∃ y, y = x6.alloc (.cells #[.int .i64 (rbS l), .slice AH (rbN l) cH] 46) := ⟨_, rfl⟩
    have n6 : Below x6.heap.size x6 y6 := by rw [hw6]; exact (Below.refl _ _).alloc (Nat.le_refl _) _
    have bH : BoxV y6 x6.heap.size [.int .i64 (rbS l), .slice AH (rbN l) cH] := by rw [hw6]; exact boxV_new _ _ _
    go_wp2_with fail
    rw [← hw6]
    clear hw6
    clear bW_z bW_0 bW_1
    clear bG_z bG_0 bG_1
    have e6 := n6.size
    have bn6 : Below w.heap.size w y6 := b6.trans (n6.mono (by have := b6.size; omega))
    replace bW := bW.below n6 (by have := bW.1; omega)
    replace bG := bG.below n6 (by have := bG.1; omega)
    replace oW := oW.keep n6
    replace oG := oG.keep n6
    replace oH := oH.keep n6
    have f6 := bH.1
    refine (eq_block (rbS l) AH AW (rbN l) cH cW (bF l) _ _ (oH.rowP HWF.out) (oW.rowP HWF.out) (Nat.le_refl _)).mono ?_
    rintro e x7 ⟨rfl, h7⟩
    have b7 : Below w.heap.size w x7 := bn6.trans (h7.mono (by have := bn6.size; omega))
    replace bW := bW.below h7 (by have := bW.1; omega)
    replace bG := bG.below h7 (by have := bG.1; omega)
    replace bH := bH.below h7 (by have := bH.1; omega)
    replace oW := oW.keep h7
    replace oG := oG.keep h7
    replace oH := oH.keep h7
    have bW_z := bW.1
    have bW_0 := bW.2 0 _ rfl
    have bW_1 := bW.2 1 _ rfl
    have bG_z := bG.1
    have bG_0 := bG.2 0 _ rfl
    have bG_1 := bG.2 1 _ rfl
    have bH_z := bH.1
    have bH_0 := bH.2 0 _ rfl
    have bH_1 := bH.2 1 _ rfl
    go_wp2_with fail
    clear bW_z bW_0 bW_1
    clear bG_z bG_0 bG_1
    clear bH_z bH_0 bH_1
    refine (held_block (rbS l) AG (rbN l) cG 1 _ _ (oG.rowP (marksS_wf (by omega) (by omega) (by omega))) (Nat.le_refl _) (by omega) (by omega) (by omega)).mono ?_
    rintro e x8 ⟨rfl, h8⟩
    have b8 : Below w.heap.size w x8 := b7.trans (h8.mono (by have := b7.size; omega))
    replace bW := bW.below h8 (by have := bW.1; omega)
    replace bG := bG.below h8 (by have := bG.1; omega)
    replace bH := bH.below h8 (by have := bH.1; omega)
    replace oW := oW.keep h8
    replace oG := oG.keep h8
    replace oH := oH.keep h8
    go_wp2
    go_ret
    exact ⟨rfl, b8⟩
  · rw [r]
    have bW_z := bW.1
    have bW_0 := bW.2 0 _ rfl
    have bW_1 := bW.2 1 _ rfl
    have bG_z := bG.1
    have bG_0 := bG.2 0 _ rfl
    have bG_1 := bG.2 1 _ rfl
    go_wp2_with fail
    clear bW_z bW_0 bW_1
    clear bG_z bG_0 bG_1
    refine (mark_block (rbS l) AG (rbN l) cG (bF l) _ 1 _ oG (by omega) (by omega) (by omega)).mono ?_
    rintro e x4 ⟨rfl, pG, g4⟩
    have b4 : Below w.heap.size w x4 := b3.grown g4 b3.size (fun k hk => by have := tG k hk; have := b1.size; omega)
    replace bW := bW.apart g4 (fun e => by have := tG _ e.symm; omega)
    replace bG := bG.apart g4 (fun e => by have := tG _ e.symm; have := bW.1; omega)
    replace oW := oW.apart g4 (fun k hk hk' => by have := tG k hk'; have := tW k hk; omega)
    have u4 := g4.size
    clear oG g4
    have oG := pG
    clear pG
    have bW_z := bW.1
    have bW_0 := bW.2 0 _ rfl
    have bW_1 := bW.2 1 _ rfl
    have bG_z := bG.1
    have bG_0 := bG.2 0 _ rfl
    have bG_1 := bG.2 1 _ rfl
    go_wp2_with fail
    clear bW_z bW_0 bW_1
    clear bG_z bG_0 bG_1
    refine (held_block (rbS l) AG (rbN l) cG 1 _ _ (oG.rowP (marksS_wf (by omega) (by omega) (by omega))) (Nat.le_refl _) (by omega) (by omega) (by omega)).mono ?_
    rintro e x5 ⟨rfl, h5⟩
    have b5 : Below w.heap.size w x5 := b4.trans (h5.mono (by have := b4.size; omega))
    replace bW := bW.below h5 (by have := bW.1; omega)
    replace bG := bG.below h5 (by have := bG.1; omega)
    replace oW := oW.keep h5
    replace oG := oG.keep h5
    have bW_z := bW.1
    have bW_0 := bW.2 0 _ rfl
    have bW_1 := bW.2 1 _ rfl
    have bG_z := bG.1
    have bG_0 := bG.2 0 _ rfl
    have bG_1 := bG.2 1 _ rfl
    go_wp2_with fail
    clear bW_z bW_0 bW_1
    clear bG_z bG_0 bG_1
    refine (impl_readB l mx _ hl ((b5.cell (p := ⟨0, 0, none⟩) (by show 0 < w.heap.size; exact hmz)).trans HMX.out)).mono ?_
    rintro e x6 ⟨AH, cH, rfl, oH, h6⟩
    have b6 : Below w.heap.size w x6 := b5.trans (h6.mono (by have := b5.size; omega))
    replace bW := bW.below h6 (by have := bW.1; omega)
    replace bG := bG.below h6 (by have := bG.1; omega)
    replace oW := oW.keep h6
    replace oG := oG.keep h6
    have tH : ∀ k, blk AH = some k → x5.heap.size ≤ k ∧ k < x6.heap.size := oH.ge'
    have bW_z := bW.1
    have bW_0 := bW.2 0 _ rfl
    have bW_1 := bW.2 1 _ rfl
    have bG_z := bG.1
    have bG_0 := bG.2 0 _ rfl
    have bG_1 := bG.2 1 _ rfl
    obtain ⟨y6, hw6⟩ : ∃ y, y = x6.alloc (.cells #[.int .i64 (rbS l), .slice AH (rbN l) cH] 46) := ⟨_, rfl⟩
    have n6 : Below x6.heap.size x6 y6 := by rw [hw6]; exact (Below.refl _ _).alloc (Nat.le_refl _) _
    have bH : BoxV y6 x6.heap.size [.int .i64 (rbS l), .slice AH (rbN l) cH] := by rw [hw6]; exact boxV_new _ _ _
    go_wp2_with fail
    rw [← hw6]
    clear hw6
    clear bW_z bW_0 bW_1
    clear bG_z bG_0 bG_1
    have e6 := n6.size
    have bn6 : Below w.heap.size w y6 := b6.trans (n6.mono (by have := b6.size; omega))
    replace bW := bW.below n6 (by have := bW.1; omega)
    replace bG := bG.below n6 (by have := bG.1; omega)
    replace oW := oW.keep n6
    replace oG := oG.keep n6
    replace oH := oH.keep n6
    have f6 := bH.1
    refine (eq_block (rbS l) AH AW (rbN l) cH cW (bF l) _ _ (oH.rowP HWF.out) (oW.rowP HWF.out) (Nat.le_refl _)).mono ?_
    rintro e x7 ⟨rfl, h7⟩
    have b7 : Below w.heap.size w x7 := bn6.trans (h7.mono (by have := bn6.size; omega))
    replace bW := bW.below h7 (by have := bW.1; omega)
    replace bG := bG.below h7 (by have := bG.1; omega)
    replace bH := bH.below h7 (by have := bH.1; omega)
    replace oW := oW.keep h7
    replace oG := oG.keep h7
    replace oH := oH.keep h7
    have bW_z := bW.1
    have bW_0 := bW.2 0 _ rfl
    have bW_1 := bW.2 1 _ rfl
    have bG_z := bG.1
    have bG_0 := bG.2 0 _ rfl
    have bG_1 := bG.2 1 _ rfl
    have bH_z := bH.1
    have bH_0 := bH.2 0 _ rfl
    have bH_1 := bH.2 1 _ rfl
    go_wp2_with fail
    clear bW_z bW_0 bW_1
    clear bG_z bG_0 bG_1
    clear bH_z bH_0 bH_1
    refine (held_block (rbS l) AG (rbN l) cG 1 _ _ (oG.rowP (marksS_wf (by omega) (by omega) (by omega))) (Nat.le_refl _) (by omega) (by omega) (by omega)).mono ?_
    rintro e x8 ⟨rfl, h8⟩
    have b8 : Below w.heap.size w x8 := b7.trans (h8.mono (by have := b7.size; omega))
    replace bW := bW.below h8 (by have := bW.1; omega)
    replace bG := bG.below h8 (by have := bG.1; omega)
    replace bH := bH.below h8 (by have := bH.1; omega)
    replace oW := oW.keep h8
    replace oG := oG.keep h8
    replace oH := oH.keep h8
    go_wp2
    go_ret
    exact ⟨rfl, b8⟩

set_option maxRecDepth 100000 in
theorem lifted (os : Os) (started : os.Started) (H : Type) (enc : TypeId × Value → H) :
    ReturnsInHanded {} Tryd.checked os 7 .any (fun w args => (Rows.fnExactReadBlockSpec.pre enc Tryd.prog Tryd.f7 [] false w args ∧ laidMetH Tryd.prog Rows.fnExactReadBlockRow.laid w) ∧ sizedMet enc Tryd.prog Tryd.f7 (OpenSpec.ofChange Rows.fnExactReadBlockSpec) false w args) (Rows.fnExactReadBlockSpec.post enc Tryd.prog Tryd.f7 false true false false) := by
  refine lift_shaped (C := Tryd.checked) (X := fun w _ => laidMetH Tryd.prog Rows.fnExactReadBlockRow.laid w) (fun _ _ _ hh h => h.of_heap hh) own started (by kernel_rfl) Tryd.func7
    (ChangeSpec.witness_shaped (enc := enc) (C := Tryd.checked) (os := os) (X := fun w _ => laidMetH Tryd.prog Rows.fnExactReadBlockRow.laid w) false (World.laidAll Tryd.prog os Rows.fnExactReadBlockRow.laid) #[.string ByteArray.empty] 8 (World.laidAll_os _ _ _)
      (World.shaped_of_ZipB (by kernel_rfl) (by kernel_rfl)) (by kernel_rfl) (by kernel_rfl) (by kernel_rfl)
      (by rw [MakeChecks.laidMetH_plain _ _ _ (by kernel_rfl)]; exact laidMet_laidAll _ (by kernel_rfl) (by kernel_rfl))) ?_
  intro W base args ds gs before hshape hval0 hW hcnd hsz hL hsh
  obtain ⟨mx, hmx⟩ := some_max W hshape
  have hval : ∀ (j : Nat) t v, Tryd.f7.params[j]? = some t → args[j]? = some v → Value.okWide Tryd.prog W .any base t v := hval0
  have hW' := hW
  obtain ⟨p, q, hA0, hV, rfl, hfz, hnd⟩ := hW
  have hA : DataW.TrodAll enc Tryd.prog W 0 (fun _ => true) true Tryd.f7.params.toList args.toList ds p := hA0
  rw [Tryd.params7] at hA hval
  obtain ⟨v0, vs0, d0, ds0, p0, q0, hargs, rfl, rfl, h0, r0⟩ := trodAll_cons hA
  obtain ⟨rfl, rfl, rfl⟩ := trodAll_nil r0
  obtain rfl : args = #[v0] := by cases args; simp_all
  obtain ⟨rfl, rfl⟩ := trodVars_none hV
  have k0 := h0
  have lt0 : ∀ x ∈ p0, x.block < W.heap.size := by obtain ⟨m, hm⟩ := k0; exact DataW.trod_lt m _ _ _ hm
  obtain ⟨s0, rfl, rfl, rfl, w0⟩ := open_string Tryd.underlying9 (hval 0 9 v0 rfl rfl) h0
  clear hA0 hval0
  refine (walk s0 W mx hmx w0).mono fun e W' ⟨he, bel⟩ => ?_
  subst he
  exact ⟨_, rfl, _, _, _, [], _, [], hW', trodAll_mk1 (shut_bool Tryd.underlying4 _), (trodAll_cons_mk (Below.trod laidOut (by kernel_rfl) (of_decide_eq_true (by kernel_rfl)) k0 bel lt0) trodAll_mk0), rfl, bel.frame _, fun h => by cases h⟩

theorem over : Rows.fnExactReadBlockRow.holds Tryd.pinned (OpenSpec.ofChange Rows.fnExactReadBlockSpec) :=
  OpenClaim.holds_of_wide 7 Tryd.f7 rfl rfl rfl rfl rfl rfl rfl ⟨rfl, rfl, rfl, rfl, rfl⟩ rfl rfl rfl rfl rfl (by kernel_rfl) Tryd.func7 (by kernel_rfl)
    (of_decide_eq_true (by kernel_rfl)) (by unfold Func.isWrapper; first | (rw [if_pos (by decide +kernel)]; kernel_rfl) | (rw [if_neg (by decide +kernel)]; exact ⟨rfl, rfl⟩))
    (fun os started H enc _ => lifted os started H enc)

/-- The statement: the row tied to the program's text. -/
theorem proved : Rows.FnExactReadBlockCardSaid :=
  Claim7.holds_tied_plain_at .later [] _ true _ false over (fun _ h => by cases h) (by kernel_rfl) (fun _ h => by cases h) fnExactReadBlock_row_tie rfl ⟨rfl, rfl⟩ (by kernel_rfl) rfl
    (fun f fn hf hfn => by
      obtain rfl : f = 7 := Option.some.inj ((show Tryd.prog.funcNamed Tryd.f7.name = some 7 by kernel_rfl).symm.trans hf) |>.symm
      obtain rfl : fn = Tryd.f7 := (Option.some.inj (Tryd.func7.symm.trans hfn)).symm
      exact ⟨by kernel_rfl, fun j t ht => by
        rw [Tryd.params7] at ht
        have hm : t ∈ [9] := by simpa using Array.mem_of_getElem? ht
        have hall : ([9].all fun u => !Tryd.prog.wantsStandIn u) = true := by kernel_rfl
        exact (show Tryd.prog.wantsStandIn t = false by simpa using List.all_eq_true.1 hall t hm)⟩)
    (by kernel_rfl)
#print axioms proved
end Go.Proofs.YtheafiaemcmjaaaDoor.fnExactReadBlock
