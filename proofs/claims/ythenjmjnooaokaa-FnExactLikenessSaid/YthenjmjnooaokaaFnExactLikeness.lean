/-
  The law FnExactLikeness: for every input the Go function returns true, and each argument reads afterwards as it read before.
  Conditions: none beyond the row's own.
-/
import Derived.Test.YthenjmjnooaokaaLike
import Derived.Test.YthenjmjnooaokaaBoxV
import Derived.Test.YthenjmjnooaokaaBlocks
import Derived.ChangeOld
import Derived.Carry
namespace Go.Proofs.Ythenjmjnooaokaa.fnExactLikeness
open Go.ChangeShapes Go.WideShapes Go.ChangeAt Go.RowKit Go.Joins
open Go.ChangeMaps (open_string shut_string)
set_option linter.unusedVariables false

theorem own : ownKnob Try.prog.godebug = none := by kernel_rfl
theorem laidOut : laidOutB Try.prog = true := by kernel_rfl

set_option maxHeartbeats 8000000 in
theorem walk (a0_0 : Int) (a0_1 : Option Addr) (l0_1 c0_1 : Nat) (f0_1 : Nat → Nat → Int) (a1_0 : Int) (a1_1 : Option Addr) (l1_1 c1_1 : Nat) (f1_1 : Nat → Nat → Int) (w : World) (w0_0 : (Lit.int .i64 a0_0).wf = true) (w0_1 : RowS 3 w w.heap.size a0_1 l0_1 c0_1 f0_1) (w1_0 : (Lit.int .i64 a1_0).wf = true) (w1_1 : RowS 3 w w.heap.size a1_1 l1_1 c1_1 f1_1) :
    Calls Try.prog 4 #[.agg #[.int .i64 a0_0, .slice a0_1 l0_1 c0_1], .agg #[.int .i64 a1_0, .slice a1_1 l1_1 c1_1]] w fun e w' => e = .returned (.bool true) ∧ Below w.heap.size w w' := by
  clear w0_0 w1_0
  have hcap := w0_1.cap
  have hcap2 := w1_1.cap
  unfold maxLen at hcap hcap2
  have p0 := w0_1.rowP
  have p1 := w1_1.rowP
  have HF0 : Hid (∀ i, i < l0_1 → ∀ j, j < 3 → (Lit.int .i64 (f0_1 i j)).wf = true) := Lib.hid fun i _ j _ => w0_1.wf i j
  have HF1 : Hid (∀ i, i < l1_1 → ∀ j, j < 3 → (Lit.int .i64 (f1_1 i j)).wf = true) := Lib.hid fun i _ j _ => w1_1.wf i j
  have b0 : Below w.heap.size w ((w.alloc (.cells #[.int .i64 a0_0, .slice a0_1 l0_1 c0_1] 24)).alloc (.cells #[.int .i64 a1_0, .slice a1_1 l1_1 c1_1] 24)) := ((Below.refl _ _).alloc (Nat.le_refl _) _).alloc (by simp) _
  have box1 : BoxV ((w.alloc (.cells #[.int .i64 a0_0, .slice a0_1 l0_1 c0_1] 24)).alloc (.cells #[.int .i64 a1_0, .slice a1_1 l1_1 c1_1] 24)) (w.heap.size + 1) [.int .i64 a1_0, .slice a1_1 l1_1 c1_1] := by simpa using boxV_new (w.alloc (.cells #[.int .i64 a0_0, .slice a0_1 l0_1 c0_1] 24)) [.int .i64 a1_0, .slice a1_1 l1_1 c1_1] 24
  have box0 : BoxV ((w.alloc (.cells #[.int .i64 a0_0, .slice a0_1 l0_1 c0_1] 24)).alloc (.cells #[.int .i64 a1_0, .slice a1_1 l1_1 c1_1] 24)) w.heap.size [.int .i64 a0_0, .slice a0_1 l0_1 c0_1] := (boxV_new w [.int .i64 a0_0, .slice a0_1 l0_1 c0_1] 24).below (B := w.heap.size + 1) (((Below.refl _ _).alloc (by simp) _)) (by omega)
  clear w0_1 w1_1
  obtain ⟨w2, hw2⟩ : ∃ w2, w2 = ((w.alloc (.cells #[.int .i64 a0_0, .slice a0_1 l0_1 c0_1] 24)).alloc (.cells #[.int .i64 a1_0, .slice a1_1 l1_1 c1_1] 24)) := ⟨_, rfl⟩
  rw [← hw2] at b0 box0 box1
  have z2 := b0.size
  go_enter Try.func4, Try.ntmps4
  have box0_z := box0.1
  have box0_0 := box0.2 0 _ rfl
  have box0_1 := box0.2 1 _ rfl
  have box1_z := box1.1
  have box1_0 := box1.2 0 _ rfl
  have box1_1 := box1.2 1 _ rfl
  go_wp2_with fail
  rw [← hw2]
  clear hw2
  clear box0_z box0_0 box0_1
  clear box1_z box1_0 box1_1
  refine (sz_block a0_0 a0_1 l0_1 c0_1 1048576 _ (by omega) (by omega) (by omega)).mono ?_
  rintro e x1 ⟨rfl, h1⟩
  have b1 : Below w.heap.size w x1 := b0.trans (h1.mono (by have := b0.size; omega))
  replace box0 := box0.below h1 (by have := box0.1; omega)
  replace box1 := box1.below h1 (by have := box1.1; omega)
  rcases (by omega : 1048576 < l0_1 ∨ l0_1 ≤ 1048576) with q0 | q0
  · rw [if_pos (by omega)]
    go_wp2
    go_ret
    exact ⟨rfl, b1⟩
  rw [if_neg (by omega)]
  have box0_z := box0.1
  have box0_0 := box0.2 0 _ rfl
  have box0_1 := box0.2 1 _ rfl
  have box1_z := box1.1
  have box1_0 := box1.2 0 _ rfl
  have box1_1 := box1.2 1 _ rfl
  go_wp2_with fail
  clear box0_z box0_0 box0_1
  clear box1_z box1_0 box1_1
  refine (sz_block a1_0 a1_1 l1_1 c1_1 _ _ (by omega) (by omega) (by omega)).mono ?_
  rintro e x2 ⟨rfl, h2⟩
  have b2 : Below w.heap.size w x2 := b1.trans (h2.mono (by have := b1.size; omega))
  replace box0 := box0.below h2 (by have := box0.1; omega)
  replace box1 := box1.below h2 (by have := box1.1; omega)
  rcases (by omega : (1048576 : Int) - l0_1 < l1_1 ∨ (l1_1 : Int) ≤ 1048576 - l0_1) with q1 | q1
  · rw [if_pos q1]
    go_wp2
    go_ret
    exact ⟨rfl, b2⟩
  rw [if_neg (by omega)]
  have q2 : l1_1 ≤ 1048576 := by omega
  have box0_z := box0.1
  have box0_0 := box0.2 0 _ rfl
  have box0_1 := box0.2 1 _ rfl
  have box1_z := box1.1
  have box1_0 := box1.2 0 _ rfl
  have box1_1 := box1.2 1 _ rfl
  go_wp2_with fail
  go_region_held3 (fun w' => w'.cell? ⟨w.heap.size, 0, none⟩ = some (.int .i64 a0_0) ∧ w'.cell? ⟨w.heap.size, 1, none⟩ = some (.slice a0_1 l0_1 c0_1) ∧ w'.cell? ⟨(w.heap.size + 1), 0, none⟩ = some (.int .i64 a1_0) ∧ w'.cell? ⟨(w.heap.size + 1), 1, none⟩ = some (.slice a1_1 l1_1 c1_1)) (first | go_keep | (exact ⟨s0, s1, s2, s3⟩)) (first | (go_at_call 18; ((with_reducible refine (to_block a0_0 a0_1 l0_1 c0_1 f0_1 w.heap.size _ (p0.below b2.drew) b2.drew.size q0).mono ?_); rintro e x3 ⟨gP, rfl, oP, h3⟩); replace h3 := below_drew h3; have u3 := h3.size; have s0 := (h3.cell (p := ⟨w.heap.size, 0, none⟩) (by show w.heap.size < _; omega)).trans box0_0; have s1 := (h3.cell (p := ⟨w.heap.size, 1, none⟩) (by show w.heap.size < _; omega)).trans box0_1; have s2 := (h3.cell (p := ⟨(w.heap.size + 1), 0, none⟩) (by show (w.heap.size + 1) < _; omega)).trans box1_0; have s3 := (h3.cell (p := ⟨(w.heap.size + 1), 1, none⟩) (by show (w.heap.size + 1) < _; omega)).trans box1_1; have b3 : Below w.heap.size w x3 := b2.trans (h3.mono (by have := b2.size; omega)); replace box0 := box0.below h3 (by have := box0.1; omega); replace box1 := box1.below h3 (by have := box1.1; omega)) | (go_at_call 18; ((with_reducible refine (to_block a1_0 a1_1 l1_1 c1_1 f1_1 w.heap.size _ (p1.below b3) b3.size q2).mono ?_); rintro e x4 ⟨gQ, rfl, oQ, h4⟩); have u4 := h4.size; have s0 := (h4.cell (p := ⟨w.heap.size, 0, none⟩) (by show w.heap.size < _; omega)).trans s0; have s1 := (h4.cell (p := ⟨w.heap.size, 1, none⟩) (by show w.heap.size < _; omega)).trans s1; have s2 := (h4.cell (p := ⟨(w.heap.size + 1), 0, none⟩) (by show (w.heap.size + 1) < _; omega)).trans s2; have s3 := (h4.cell (p := ⟨(w.heap.size + 1), 1, none⟩) (by show (w.heap.size + 1) < _; omega)).trans s3; have b4 : Below w.heap.size w x4 := b3.trans (h4.mono (by have := b3.size; omega)); replace box0 := box0.below h4 (by have := box0.1; omega); replace box1 := box1.below h4 (by have := box1.1; omega); replace oP := oP.keep h4) | (go_at_call 17; ((with_reducible refine (spec_like a0_0 (some ⟨gP, 0, none⟩) l0_1 l0_1 f0_1 a1_0 (some ⟨gQ, 0, none⟩) l1_1 l1_1 f1_1 _ _ (oP.rowP HF0.out) (oQ.rowP HF1.out) (Nat.le_refl _)).mono ?_); rintro e x5 ⟨rfl, h5⟩); have u5 := h5.size; have s0 := (h5.cell (p := ⟨w.heap.size, 0, none⟩) (by show w.heap.size < _; omega)).trans s0; have s1 := (h5.cell (p := ⟨w.heap.size, 1, none⟩) (by show w.heap.size < _; omega)).trans s1; have s2 := (h5.cell (p := ⟨(w.heap.size + 1), 0, none⟩) (by show (w.heap.size + 1) < _; omega)).trans s2; have s3 := (h5.cell (p := ⟨(w.heap.size + 1), 1, none⟩) (by show (w.heap.size + 1) < _; omega)).trans s3; have b5 : Below w.heap.size w x5 := b4.trans (h5.mono (by have := b4.size; omega)); replace box0 := box0.below h5 (by have := box0.1; omega); replace box1 := box1.below h5 (by have := box1.1; omega); replace oP := oP.keep h5; replace oQ := oQ.keep h5))
  clear s0 s1 s2 s3
  clear box0_z box0_0 box0_1
  clear box1_z box1_0 box1_1
  have box0_z := box0.1
  have box0_0 := box0.2 0 _ rfl
  have box0_1 := box0.2 1 _ rfl
  have box1_z := box1.1
  have box1_0 := box1.2 0 _ rfl
  have box1_1 := box1.2 1 _ rfl
  go_wp2_with fail
  clear box0_z box0_0 box0_1
  clear box1_z box1_0 box1_1
  refine (to_block a0_0 a0_1 l0_1 c0_1 f0_1 w.heap.size _ (p0.below b5) b5.size q0).mono ?_
  rintro e x6 ⟨gX, rfl, oX, h6⟩
  have b6 : Below w.heap.size w x6 := b5.trans (h6.mono (by have := b5.size; omega))
  replace box0 := box0.below h6 (by have := box0.1; omega)
  replace box1 := box1.below h6 (by have := box1.1; omega)
  replace oP := oP.keep h6
  replace oQ := oQ.keep h6
  have box0_z := box0.1
  have box0_0 := box0.2 0 _ rfl
  have box0_1 := box0.2 1 _ rfl
  have box1_z := box1.1
  have box1_0 := box1.2 0 _ rfl
  have box1_1 := box1.2 1 _ rfl
  obtain ⟨y6, hw6⟩ : ∃ y, y = x6.alloc (.cells #[.int .i64 a0_0, .slice (some ⟨gX, 0, none⟩) l0_1 l0_1] 31) := ⟨_, rfl⟩
  have n6 : Below x6.heap.size x6 y6 := by rw [hw6]; exact (Below.refl _ _).alloc (Nat.le_refl _) _
  have bX : BoxV y6 x6.heap.size [.int .i64 a0_0, .slice (some ⟨gX, 0, none⟩) l0_1 l0_1] := by rw [hw6]; exact boxV_new _ _ _
  go_wp2_with fail
  rw [← hw6]
  clear hw6
  clear box0_z box0_0 box0_1
  clear box1_z box1_0 box1_1
  have e6 := n6.size
  have bn6 : Below w.heap.size w y6 := b6.trans (n6.mono (by have := b6.size; omega))
  replace box0 := box0.below n6 (by have := box0.1; omega)
  replace box1 := box1.below n6 (by have := box1.1; omega)
  replace oP := oP.keep n6
  replace oQ := oQ.keep n6
  replace oX := oX.keep n6
  refine (to_block a1_0 a1_1 l1_1 c1_1 f1_1 w.heap.size _ (p1.below bn6) bn6.size q2).mono ?_
  rintro e x7 ⟨gY, rfl, oY, h7⟩
  have b7 : Below w.heap.size w x7 := bn6.trans (h7.mono (by have := bn6.size; omega))
  replace box0 := box0.below h7 (by have := box0.1; omega)
  replace box1 := box1.below h7 (by have := box1.1; omega)
  replace bX := bX.below h7 (by have := bX.1; omega)
  replace oP := oP.keep h7
  replace oQ := oQ.keep h7
  replace oX := oX.keep h7
  have box0_z := box0.1
  have box0_0 := box0.2 0 _ rfl
  have box0_1 := box0.2 1 _ rfl
  have box1_z := box1.1
  have box1_0 := box1.2 0 _ rfl
  have box1_1 := box1.2 1 _ rfl
  have bX_z := bX.1
  have bX_0 := bX.2 0 _ rfl
  have bX_1 := bX.2 1 _ rfl
  obtain ⟨y7, hw7⟩ : ∃ y, y = x7.alloc (.cells #[.int .i64 a1_0, .slice (some ⟨gY, 0, none⟩) l1_1 l1_1] 31) := ⟨_, rfl⟩
  have n7 : Below x7.heap.size x7 y7 := by rw [hw7]; exact (Below.refl _ _).alloc (Nat.le_refl _) _
  have bY : BoxV y7 x7.heap.size [.int .i64 a1_0, .slice (some ⟨gY, 0, none⟩) l1_1 l1_1] := by rw [hw7]; exact boxV_new _ _ _
  go_wp2_with fail
  rw [← hw7]
  clear hw7
  clear box0_z box0_0 box0_1
  clear box1_z box1_0 box1_1
  clear bX_z bX_0 bX_1
  have e7 := n7.size
  have bn7 : Below w.heap.size w y7 := b7.trans (n7.mono (by have := b7.size; omega))
  replace box0 := box0.below n7 (by have := box0.1; omega)
  replace box1 := box1.below n7 (by have := box1.1; omega)
  replace bX := bX.below n7 (by have := bX.1; omega)
  replace oP := oP.keep n7
  replace oQ := oQ.keep n7
  replace oX := oX.keep n7
  replace oY := oY.keep n7
  refine (impl_like a0_0 (some ⟨gX, 0, none⟩) l0_1 l0_1 f0_1 a1_0 (some ⟨gY, 0, none⟩) l1_1 l1_1 f1_1 _ _ (oX.rowP HF0.out) (oY.rowP HF1.out) (Nat.le_refl _)).mono ?_
  rintro e x8 ⟨rfl, h8⟩
  have b8 : Below w.heap.size w x8 := bn7.trans (h8.mono (by have := bn7.size; omega))
  replace box0 := box0.below h8 (by have := box0.1; omega)
  replace box1 := box1.below h8 (by have := box1.1; omega)
  replace bX := bX.below h8 (by have := bX.1; omega)
  replace bY := bY.below h8 (by have := bY.1; omega)
  replace oP := oP.keep h8
  replace oQ := oQ.keep h8
  replace oX := oX.keep h8
  replace oY := oY.keep h8
  have box0_z := box0.1
  have box0_0 := box0.2 0 _ rfl
  have box0_1 := box0.2 1 _ rfl
  have box1_z := box1.1
  have box1_0 := box1.2 0 _ rfl
  have box1_1 := box1.2 1 _ rfl
  have bX_z := bX.1
  have bX_0 := bX.2 0 _ rfl
  have bX_1 := bX.2 1 _ rfl
  have bY_z := bY.1
  have bY_0 := bY.2 0 _ rfl
  have bY_1 := bY.2 1 _ rfl
  go_wp2_with fail
  go_region_held3 (fun w' => w'.cell? ⟨x6.heap.size, 0, none⟩ = some (.int .i64 a0_0) ∧ w'.cell? ⟨x6.heap.size, 1, none⟩ = some (.slice (some ⟨gX, 0, none⟩) l0_1 l0_1) ∧ w'.cell? ⟨w.heap.size, 0, none⟩ = some (.int .i64 a0_0) ∧ w'.cell? ⟨w.heap.size, 1, none⟩ = some (.slice a0_1 l0_1 c0_1)) (first | go_keep | (exact ⟨s0, s1, s2, s3⟩)) (first | (go_at_call 18; ((with_reducible refine (to_block a0_0 a0_1 l0_1 c0_1 f0_1 w.heap.size _ (p0.below b8.drew) b8.drew.size q0).mono ?_); rintro e x9 ⟨gZ, rfl, oZ, h9⟩); replace h9 := below_drew h9; have u9 := h9.size; have s0 := (h9.cell (p := ⟨x6.heap.size, 0, none⟩) (by show x6.heap.size < _; omega)).trans bX_0; have s1 := (h9.cell (p := ⟨x6.heap.size, 1, none⟩) (by show x6.heap.size < _; omega)).trans bX_1; have s2 := (h9.cell (p := ⟨w.heap.size, 0, none⟩) (by show w.heap.size < _; omega)).trans box0_0; have s3 := (h9.cell (p := ⟨w.heap.size, 1, none⟩) (by show w.heap.size < _; omega)).trans box0_1; have b9 : Below w.heap.size w x9 := b8.trans (h9.mono (by have := b8.size; omega)); replace box0 := box0.below h9 (by have := box0.1; omega); replace box1 := box1.below h9 (by have := box1.1; omega); replace bX := bX.below h9 (by have := bX.1; omega); replace bY := bY.below h9 (by have := bY.1; omega); replace oP := oP.keep h9; replace oQ := oQ.keep h9; replace oX := oX.keep h9; replace oY := oY.keep h9) | (go_at_call 20; ((with_reducible refine (eq_block a0_0 (some ⟨gX, 0, none⟩) (some ⟨gZ, 0, none⟩) l0_1 l0_1 l0_1 f0_1 _ _ (oX.rowP HF0.out) (oZ.rowP HF0.out) (Nat.le_refl _)).mono ?_); rintro e x10 ⟨rfl, h10⟩); have u10 := h10.size; have s0 := (h10.cell (p := ⟨x6.heap.size, 0, none⟩) (by show x6.heap.size < _; omega)).trans s0; have s1 := (h10.cell (p := ⟨x6.heap.size, 1, none⟩) (by show x6.heap.size < _; omega)).trans s1; have s2 := (h10.cell (p := ⟨w.heap.size, 0, none⟩) (by show w.heap.size < _; omega)).trans s2; have s3 := (h10.cell (p := ⟨w.heap.size, 1, none⟩) (by show w.heap.size < _; omega)).trans s3; have b10 : Below w.heap.size w x10 := b9.trans (h10.mono (by have := b9.size; omega)); replace box0 := box0.below h10 (by have := box0.1; omega); replace box1 := box1.below h10 (by have := box1.1; omega); replace bX := bX.below h10 (by have := bX.1; omega); replace bY := bY.below h10 (by have := bY.1; omega); replace oP := oP.keep h10; replace oQ := oQ.keep h10; replace oX := oX.keep h10; replace oY := oY.keep h10; replace oZ := oZ.keep h10))
  clear s0 s1 s2 s3
  clear box0_z box0_0 box0_1
  clear box1_z box1_0 box1_1
  clear bX_z bX_0 bX_1
  clear bY_z bY_0 bY_1
  have box0_z := box0.1
  have box0_0 := box0.2 0 _ rfl
  have box0_1 := box0.2 1 _ rfl
  have box1_z := box1.1
  have box1_0 := box1.2 0 _ rfl
  have box1_1 := box1.2 1 _ rfl
  have bX_z := bX.1
  have bX_0 := bX.2 0 _ rfl
  have bX_1 := bX.2 1 _ rfl
  have bY_z := bY.1
  have bY_0 := bY.2 0 _ rfl
  have bY_1 := bY.2 1 _ rfl
  go_wp2_with fail
  go_region_held3 (fun w' => w'.cell? ⟨x7.heap.size, 0, none⟩ = some (.int .i64 a1_0) ∧ w'.cell? ⟨x7.heap.size, 1, none⟩ = some (.slice (some ⟨gY, 0, none⟩) l1_1 l1_1) ∧ w'.cell? ⟨(w.heap.size + 1), 0, none⟩ = some (.int .i64 a1_0) ∧ w'.cell? ⟨(w.heap.size + 1), 1, none⟩ = some (.slice a1_1 l1_1 c1_1)) (first | go_keep | (exact ⟨s0, s1, s2, s3⟩)) (first | (go_at_call 18; ((with_reducible refine (to_block a1_0 a1_1 l1_1 c1_1 f1_1 w.heap.size _ (p1.below b10.drew) b10.drew.size q2).mono ?_); rintro e x11 ⟨gV, rfl, oV, h11⟩); replace h11 := below_drew h11; have u11 := h11.size; have s0 := (h11.cell (p := ⟨x7.heap.size, 0, none⟩) (by show x7.heap.size < _; omega)).trans bY_0; have s1 := (h11.cell (p := ⟨x7.heap.size, 1, none⟩) (by show x7.heap.size < _; omega)).trans bY_1; have s2 := (h11.cell (p := ⟨(w.heap.size + 1), 0, none⟩) (by show (w.heap.size + 1) < _; omega)).trans box1_0; have s3 := (h11.cell (p := ⟨(w.heap.size + 1), 1, none⟩) (by show (w.heap.size + 1) < _; omega)).trans box1_1; have b11 : Below w.heap.size w x11 := b10.trans (h11.mono (by have := b10.size; omega)); replace box0 := box0.below h11 (by have := box0.1; omega); replace box1 := box1.below h11 (by have := box1.1; omega); replace bX := bX.below h11 (by have := bX.1; omega); replace bY := bY.below h11 (by have := bY.1; omega); replace oP := oP.keep h11; replace oQ := oQ.keep h11; replace oX := oX.keep h11; replace oY := oY.keep h11; replace oZ := oZ.keep h11) | (go_at_call 20; ((with_reducible refine (eq_block a1_0 (some ⟨gY, 0, none⟩) (some ⟨gV, 0, none⟩) l1_1 l1_1 l1_1 f1_1 _ _ (oY.rowP HF1.out) (oV.rowP HF1.out) (Nat.le_refl _)).mono ?_); rintro e x12 ⟨rfl, h12⟩); have u12 := h12.size; have s0 := (h12.cell (p := ⟨x7.heap.size, 0, none⟩) (by show x7.heap.size < _; omega)).trans s0; have s1 := (h12.cell (p := ⟨x7.heap.size, 1, none⟩) (by show x7.heap.size < _; omega)).trans s1; have s2 := (h12.cell (p := ⟨(w.heap.size + 1), 0, none⟩) (by show (w.heap.size + 1) < _; omega)).trans s2; have s3 := (h12.cell (p := ⟨(w.heap.size + 1), 1, none⟩) (by show (w.heap.size + 1) < _; omega)).trans s3; have b12 : Below w.heap.size w x12 := b11.trans (h12.mono (by have := b11.size; omega)); replace box0 := box0.below h12 (by have := box0.1; omega); replace box1 := box1.below h12 (by have := box1.1; omega); replace bX := bX.below h12 (by have := bX.1; omega); replace bY := bY.below h12 (by have := bY.1; omega); replace oP := oP.keep h12; replace oQ := oQ.keep h12; replace oX := oX.keep h12; replace oY := oY.keep h12; replace oZ := oZ.keep h12; replace oV := oV.keep h12))
  clear s0 s1 s2 s3
  clear box0_z box0_0 box0_1
  clear box1_z box1_0 box1_1
  clear bX_z bX_0 bX_1
  clear bY_z bY_0 bY_1
  go_wp2
  go_ret
  exact ⟨rfl, b12⟩

set_option maxRecDepth 100000 in
theorem lifted (os : Os) (started : os.Started) (H : Type) (enc : TypeId × Value → H) :
    ReturnsInHanded {} Try.checked os 4 .any (Rows.fnExactLikenessSpec.pre6 enc Try.prog Try.f4 Rows.fnExactLikenessRow.domain false) (Rows.fnExactLikenessSpec.post enc Try.prog Try.f4 false true false false) := by
  refine returnsInHanded_of_change (C := Try.checked) own started (by kernel_rfl) Try.func4
    (ChangeSpec.witness6 (enc := enc) (C := Try.checked) false ⟨#[], #[.agg #[.int .i64 0, .slice none 0 0], .agg #[.int .i64 0, .slice none 0 0]], []⟩ 8 (by kernel_rfl) (by kernel_rfl) (by kernel_rfl) (by kernel_rfl)) ?_
  intro W base args ds gs before hval0 hW hcnd _
  have hval : ∀ (j : Nat) t v, Try.f4.params[j]? = some t → args[j]? = some v → Value.okWide Try.prog W .any base t v := hval0
  have hW' := hW
  obtain ⟨p, q, hA0, hV, rfl, hfz, hnd⟩ := hW
  have hA : DataW.TrodAll enc Try.prog W 0 (fun _ => true) true Try.f4.params.toList args.toList ds p := hA0
  rw [Try.params4] at hA hval
  obtain ⟨v0, vs0, d0, ds0, p0, q0, hargs, rfl, rfl, h0, r0⟩ := trodAll_cons hA
  obtain ⟨v1, vs1, d1, ds1, p1, q1, rfl, rfl, rfl, h1, r1⟩ := trodAll_cons r0
  obtain ⟨rfl, rfl, rfl⟩ := trodAll_nil r1
  obtain rfl : args = #[v0, v1] := by cases args; simp_all
  obtain ⟨rfl, rfl⟩ := trodVars_none hV
  have k0 := h0
  have lt0 : ∀ x ∈ p0, x.block < W.heap.size := by obtain ⟨m, hm⟩ := k0; exact DataW.trod_lt m _ _ _ hm
  have k1 := h1
  have lt1 : ∀ x ∈ p1, x.block < W.heap.size := by obtain ⟨m, hm⟩ := k1; exact DataW.trod_lt m _ _ _ hm
  obtain ⟨x0_0, x0_1, y0_0, y0_1, m0, rfl, rfl, rfl, hy0_0, hy0_1⟩ := open_agg2 Try.underlying24 (by kernel_rfl) (by kernel_rfl) (hval 0 24 v0 rfl rfl) h0
  obtain ⟨a0_0, e0_0, _, w0_0⟩ := DataW.trod_int Try.underlying3 hy0_0
  simp at e0_0; subst e0_0
  obtain ⟨a0_1, l0_1, c0_1, e0_1⟩ := cell_slice Try.underlying22 hy0_1
  subst e0_1
  obtain ⟨f0_1, w0_1⟩ := open_rowS (m := 3) Try.underlying22 Try.underlying108 (by kernel_rfl) rfl (by kernel_rfl) (by kernel_rfl) (by decide) (⟨m0, by simpa [Value.cells] using hy0_1⟩)
  obtain ⟨x1_0, x1_1, y1_0, y1_1, m1, rfl, rfl, rfl, hy1_0, hy1_1⟩ := open_agg2 Try.underlying24 (by kernel_rfl) (by kernel_rfl) (hval 1 24 v1 rfl rfl) h1
  obtain ⟨a1_0, e1_0, _, w1_0⟩ := DataW.trod_int Try.underlying3 hy1_0
  simp at e1_0; subst e1_0
  obtain ⟨a1_1, l1_1, c1_1, e1_1⟩ := cell_slice Try.underlying22 hy1_1
  subst e1_1
  obtain ⟨f1_1, w1_1⟩ := open_rowS (m := 3) Try.underlying22 Try.underlying108 (by kernel_rfl) rfl (by kernel_rfl) (by kernel_rfl) (by decide) (⟨m1, by simpa [Value.cells] using hy1_1⟩)
  clear hA0 hval0
  refine (walk a0_0 a0_1 l0_1 c0_1 f0_1 a1_0 a1_1 l1_1 c1_1 f1_1 W w0_0 w0_1 w1_0 w1_1).mono fun e W' ⟨he, bel⟩ => ?_
  subst he
  exact ⟨_, rfl, _, _, _, [], _, [], hW', trodAll_mk1 (shut_bool Try.underlying4 _), (trodAll_cons_mk (Below.trod laidOut (by kernel_rfl) (of_decide_eq_true (by kernel_rfl)) k0 bel lt0) (trodAll_cons_mk (Below.trod laidOut (by kernel_rfl) (of_decide_eq_true (by kernel_rfl)) k1 bel lt1) trodAll_mk0)), rfl, bel.frame _, fun h => by cases h⟩

theorem over : Rows.fnExactLikenessRow.holds Try.pinned (OpenSpec.ofChange Rows.fnExactLikenessSpec) :=
  OpenClaim.holds_of_wide 4 Try.f4 rfl rfl rfl rfl rfl rfl rfl ⟨rfl, rfl, rfl, rfl, rfl⟩ rfl rfl rfl rfl rfl (by kernel_rfl) Try.func4 (by kernel_rfl)
    (of_decide_eq_true (by kernel_rfl)) (by unfold Func.isWrapper; first | (rw [if_pos (by decide +kernel)]; kernel_rfl) | (rw [if_neg (by decide +kernel)]; exact ⟨rfl, rfl⟩))
    (fun os started H enc _ => lifted os started H enc)

/-- The statement. -/
theorem proved : Rows.FnExactLikenessSaid := over
#print axioms proved
end Go.Proofs.Ythenjmjnooaokaa.fnExactLikeness
