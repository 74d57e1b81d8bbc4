/- Contracts of the functions on cells: the program's and the reference's. -/
import Derived.Test.YthenjmjnooaokaaNum
import Derived.Test.YthenjmjnooaokaaPureC
import Derived.Outline
import Derived.Deep.QuietTactic
import Derived.BigQuiet
namespace Go.Proofs.Ythenjmjnooaokaa
open Go.ChangeShapes Go.WideShapes Go.ChangeAt Go.RowKit
theorem to_cell (f : Nat → Int) (w : World) : Calls Try.prog 91 #[.agg #[.int .i64 (f 0), .int .i64 (f 1), .int .i64 (f 2)]] w fun e w' => e = .returned (.agg #[.int .i64 (f 0), .int .i64 (f 1), .int .i64 (f 2)]) ∧ Below w.heap.size w w' := by
  go_enter Try.func91, Try.ntmps91
  go_wp2
  exact bodyPost_ret (v := .agg #[.int .i64 (f 0), .int .i64 (f 1), .int .i64 (f 2)]) (by simp [results, Try.results91, go_sem]) rfl ⟨rfl, (((Below.refl _ _).alloc (Nat.le_refl _) _).alloc (by simp) _).alloc (by simp; omega) _⟩
theorem isColor_any (a : Int) (w : World) : Calls Try.prog 101 #[.int .i64 a] w fun e w' => e = .returned (.bool (inB a 0 5)) ∧ w = w' := by
  go_enter Try.func101, Try.ntmps101
  go_wp2_with (go_at_call 52; refine (within_any _ _ _ _).mono ?_; rintro e w' ⟨rfl, rfl⟩)
  go_ret
  exact ⟨rfl, rfl⟩
theorem impl_cellOk (f : Nat → Int) (w : World) : Calls Try.prog 77 #[.agg #[.int .i64 (f 0), .int .i64 (f 1), .int .i64 (f 2)]] w fun e w' => e = .returned (.bool (cellOk f)) ∧ Below w.heap.size w w' := by
  rcases inB_or (f 0) 0 2 with ⟨hA, a1, a2⟩ | hA <;> rcases inB_or (f 1) 0 5 with ⟨hB, b1, b2⟩ | hB <;> rcases inB_or (f 2) 0 5 with ⟨hC, c1, c2⟩ | hC
  all_goals
    go_enter Try.func77, Try.ntmps77
    go_wp2_with (first | (go_at_call 52; refine (within_any _ _ _ _).mono ?_; rintro e w' ⟨rfl, rfl⟩) | (go_at_call 101; refine (isColor_any _ _).mono ?_; rintro e w' ⟨rfl, rfl⟩))
    go_ret
    exact ⟨ret_bool (by simp [cellOk, hA, hB, hC]), (Below.refl _ _).alloc (Nat.le_refl _) _⟩
theorem spec_cellOk (f : Nat → Int) (w : World) : Calls Try.prog 80 #[.agg #[.int .i64 (f 0), .int .i64 (f 1), .int .i64 (f 2)]] w fun e w' => e = .returned (.bool (cellOk f)) ∧ Below w.heap.size w w' := by
  rcases inB_or (f 0) 0 2 with ⟨hA, a1, a2⟩ | hA <;> rcases inB_or (f 1) 0 5 with ⟨hB, b1, b2⟩ | hB <;> rcases inB_or (f 2) 0 5 with ⟨hC, c1, c2⟩ | hC
  all_goals
    go_enter Try.func80, Try.ntmps80
    go_wp2_with (go_at_call 50; refine (l01In_any _ _ _ _).mono ?_; rintro e w' ⟨rfl, rfl⟩)
    go_ret
    exact ⟨ret_bool (by simp [cellOk, hA, hB, hC]), (Below.refl _ _).alloc (Nat.le_refl _) _⟩
set_option maxHeartbeats 4000000 in
theorem impl_colorAt (f : Nat → Int) (s : Int) (w : World) : Calls Try.prog 92 #[.agg #[.int .i64 (f 0), .int .i64 (f 1), .int .i64 (f 2)], .int .i64 s] w fun e w' => e = .returned (.int .i64 (colorAt f s)) ∧ Below w.heap.size w w' := by
  rcases inB_or s 0 3 with ⟨hS, s1, s2⟩ | hS
  · rcases Bool.eq_false_or_eq_true (cellOk f) with hO | hO
    · obtain ⟨⟨f1, f2⟩, _⟩ := cellOk_t hO
      rcases (by omega : (f 0 ≤ 0) ∨ (1 ≤ f 0 ∧ f 0 ≤ 1) ∨ (2 ≤ f 0)) with g1 | ⟨g1, g2⟩ | g1 <;> rcases (by omega : (s ≤ 0) ∨ (1 ≤ s ∧ s ≤ 1) ∨ (2 ≤ s ∧ s ≤ 2) ∨ (3 ≤ s)) with g3 | ⟨g3, g4⟩ | ⟨g3, g4⟩ | g3
      all_goals rcases Bool.eq_false_or_eq_true (s == 0) with q0 | q0 <;> (try (exfalso; first | (have := WalkArith.int_eq q0; omega) | (have := WalkArith.int_ne q0; omega)))
      all_goals rcases Bool.eq_false_or_eq_true (s == 1) with q1 | q1 <;> (try (exfalso; first | (have := WalkArith.int_eq q1; omega) | (have := WalkArith.int_ne q1; omega)))
      all_goals rcases Bool.eq_false_or_eq_true (s == 3) with q3 | q3 <;> (try (exfalso; first | (have := WalkArith.int_eq q3; omega) | (have := WalkArith.int_ne q3; omega)))
      all_goals rcases Bool.eq_false_or_eq_true (f 0 == 1) with q4 | q4 <;> (try (exfalso; first | (have := WalkArith.int_eq q4; omega) | (have := WalkArith.int_ne q4; omega)))
      all_goals rcases Bool.eq_false_or_eq_true (f 0 == 2) with q5 | q5 <;> (try (exfalso; first | (have := WalkArith.int_eq q5; omega) | (have := WalkArith.int_ne q5; omega)))
      all_goals
        go_enter Try.func92, Try.ntmps92
        go_wp2_with fail
        refine (impl_cellOk _ _).mono ?_
        rintro e w1 ⟨rfl, hb1⟩
        obtain ⟨hc1, hf1⟩ := bcell hb1
        have hz1 : w.heap.size < w1.heap.size := by have := hb1.size; simp at this; omega
        go_wp2_with (go_at_call 52; refine (within_any _ _ _ _).mono ?_; rintro e w' ⟨rfl, rfl⟩)
        go_ret
        refine ⟨ret_int ?_, ((Below.refl _ _).alloc (Nat.le_refl _) _).trans (hb1.mono (by simp))⟩
        first | (refine colorAt_a hO hS ?_; omega) | (refine colorAt_b hO hS ?_; omega)
    · go_enter Try.func92, Try.ntmps92
      go_wp2_with fail
      refine (impl_cellOk _ _).mono ?_
      rintro e w1 ⟨rfl, hb1⟩
      go_wp2
      go_ret
      exact ⟨ret_int (colorAt_n (by simp [hO])).symm, ((Below.refl _ _).alloc (Nat.le_refl _) _).trans (hb1.mono (by simp))⟩
  · rcases Bool.eq_false_or_eq_true (cellOk f) with hO | hO
    all_goals
      go_enter Try.func92, Try.ntmps92
      go_wp2_with fail
      refine (impl_cellOk _ _).mono ?_
      rintro e w1 ⟨rfl, hb1⟩
      go_wp2_with (go_at_call 52; refine (within_any _ _ _ _).mono ?_; rintro e w' ⟨rfl, rfl⟩)
      go_ret
      exact ⟨ret_int (colorAt_n (by simp [hO, hS])).symm, ((Below.refl _ _).alloc (Nat.le_refl _) _).trans (hb1.mono (by simp))⟩
set_option maxHeartbeats 4000000 in
theorem spec_colorAt (f : Nat → Int) (s : Int) (w : World) : Calls Try.prog 90 #[.agg #[.int .i64 (f 0), .int .i64 (f 1), .int .i64 (f 2)], .int .i64 s] w fun e w' => e = .returned (.int .i64 (colorAt f s)) ∧ Below w.heap.size w w' := by
  rcases inB_or s 0 3 with ⟨hS, s1, s2⟩ | hS
  · rcases Bool.eq_false_or_eq_true (cellOk f) with hO | hO
    · obtain ⟨⟨f1, f2⟩, _⟩ := cellOk_t hO
      rcases (by omega : (f 0 ≤ 0) ∨ (1 ≤ f 0 ∧ f 0 ≤ 1) ∨ (2 ≤ f 0)) with g1 | ⟨g1, g2⟩ | g1 <;> rcases (by omega : (s ≤ 0) ∨ (1 ≤ s ∧ s ≤ 1) ∨ (2 ≤ s ∧ s ≤ 2) ∨ (3 ≤ s)) with g3 | ⟨g3, g4⟩ | ⟨g3, g4⟩ | g3
      all_goals rcases Bool.eq_false_or_eq_true (s == 0) with q0 | q0 <;> (try (exfalso; first | (have := WalkArith.int_eq q0; omega) | (have := WalkArith.int_ne q0; omega)))
      all_goals rcases Bool.eq_false_or_eq_true (s == 1) with q1 | q1 <;> (try (exfalso; first | (have := WalkArith.int_eq q1; omega) | (have := WalkArith.int_ne q1; omega)))
      all_goals rcases Bool.eq_false_or_eq_true (s == 3) with q3 | q3 <;> (try (exfalso; first | (have := WalkArith.int_eq q3; omega) | (have := WalkArith.int_ne q3; omega)))
      all_goals rcases Bool.eq_false_or_eq_true (f 0 == 1) with q4 | q4 <;> (try (exfalso; first | (have := WalkArith.int_eq q4; omega) | (have := WalkArith.int_ne q4; omega)))
      all_goals rcases Bool.eq_false_or_eq_true (f 0 == 2) with q5 | q5 <;> (try (exfalso; first | (have := WalkArith.int_eq q5; omega) | (have := WalkArith.int_ne q5; omega)))
      all_goals
        go_enter Try.func90, Try.ntmps90
        go_wp2_with fail
        refine (spec_cellOk _ _).mono ?_
        rintro e w1 ⟨rfl, hb1⟩
        obtain ⟨hc1, hf1⟩ := bcell hb1
        have hz1 : w.heap.size < w1.heap.size := by have := hb1.size; simp at this; omega
        go_wp2_with (go_at_call 50; refine (l01In_any _ _ _ _).mono ?_; rintro e w' ⟨rfl, rfl⟩)
        go_ret
        refine ⟨ret_int ?_, ((Below.refl _ _).alloc (Nat.le_refl _) _).trans (hb1.mono (by simp))⟩
        first | (refine colorAt_a hO hS ?_; omega) | (refine colorAt_b hO hS ?_; omega)
    · go_enter Try.func90, Try.ntmps90
      go_wp2_with fail
      refine (spec_cellOk _ _).mono ?_
      rintro e w1 ⟨rfl, hb1⟩
      go_wp2
      go_ret
      exact ⟨ret_int (colorAt_n (by simp [hO])).symm, ((Below.refl _ _).alloc (Nat.le_refl _) _).trans (hb1.mono (by simp))⟩
  · rcases Bool.eq_false_or_eq_true (cellOk f) with hO | hO
    all_goals
      go_enter Try.func90, Try.ntmps90
      go_wp2_with fail
      refine (spec_cellOk _ _).mono ?_
      rintro e w1 ⟨rfl, hb1⟩
      go_wp2_with (go_at_call 50; refine (l01In_any _ _ _ _).mono ?_; rintro e w' ⟨rfl, rfl⟩)
      go_ret
      exact ⟨ret_int (colorAt_n (by simp [hO, hS])).symm, ((Below.refl _ _).alloc (Nat.le_refl _) _).trans (hb1.mono (by simp))⟩
end Go.Proofs.Ythenjmjnooaokaa
