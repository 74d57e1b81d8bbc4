/- Contracts of DueDay, SewMinutes, StitchCount, ThreadFor, BobbinsFor: the program's and the reference's. -/
import Derived.Test.YtjldigdbbbimaaaNum
namespace Go.Proofs.Ytjldigdbbbimaaa
open Go.ChangeShapes Go.WideShapes Go.ChangeAt Go.RowKit
theorem up_any (a b : Int) (w : World) (h1 : 0 ≤ a) (h2 : a ≤ 1000000000) (h3 : 1 ≤ b) (h4 : b ≤ 1000000000) : Calls Try.prog 24 #[.int .i64 a, .int .i64 b] w fun e w' => e = .returned (.int .i64 (upI a b)) ∧ w = w' := by
  go_enter Try.func24, Try.ntmps24
  go_wp2
  all_goals go_ret
  all_goals exact ⟨ret_int (by rfl), rfl⟩
theorem impl_due (a b c : Int) (w : World) : Calls Try.prog 10 #[.int .i64 a, .int .i64 b, .int .i64 c] w fun e w' => e = .returned (.int .i64 (dueDay a b c)) ∧ w = w' := by
  rcases inB_or a 0 9999 with ⟨hA, a1, a2⟩ | hA <;> rcases inB_or b 0 8 with ⟨hB, b1, b2⟩ | hB <;> rcases inB_or c 1 365 with ⟨hC, c1, c2⟩ | hC
  all_goals (try have bM := due_mul b1 b2 c1 c2)
  all_goals
    go_enter Try.func10, Try.ntmps10
    go_wp2_with (go_at_call 23; refine (within_any _ _ _ _).mono ?_; rintro e w' ⟨rfl, rfl⟩)
    go_ret
    exact ⟨ret_int (by simp [dueDay, hA, hB, hC]), rfl⟩
theorem spec_due (a b c : Int) (w : World) : Calls Try.prog 9 #[.int .i64 a, .int .i64 b, .int .i64 c] w fun e w' => e = .returned (.int .i64 (dueDay a b c)) ∧ w = w' := by
  rcases inB_or a 0 9999 with ⟨hA, a1, a2⟩ | hA <;> rcases inB_or b 0 8 with ⟨hB, b1, b2⟩ | hB <;> rcases inB_or c 1 365 with ⟨hC, c1, c2⟩ | hC
  all_goals (try have bM := due_mul b1 b2 c1 c2)
  all_goals
    go_enter Try.func9, Try.ntmps9
    go_wp2_with (go_at_call 22; refine (l01In_any _ _ _ _).mono ?_; rintro e w' ⟨rfl, rfl⟩)
    go_ret
    exact ⟨ret_int (by simp [dueDay, hA, hB, hC]), rfl⟩
theorem impl_sew (a b : Int) (w : World) : Calls Try.prog 12 #[.int .i64 a, .int .i64 b] w fun e w' => e = .returned (.int .i64 (sewMin a b)) ∧ w = w' := by
  rcases inB_or a 0 1000000 with ⟨hA, a1, a2⟩ | hA <;> rcases inB_or b 1 2000 with ⟨hB, b1, b2⟩ | hB
  all_goals
    go_enter Try.func12, Try.ntmps12
    go_wp2_with (first | (go_at_call 23; refine (within_any _ _ _ _).mono ?_; rintro e w' ⟨rfl, rfl⟩) | (go_at_call 24; refine (up_any _ _ _ (by omega) (by omega) (by omega) (by omega)).mono ?_; rintro e w' ⟨rfl, rfl⟩))
    go_ret
    exact ⟨ret_int (by simp [sewMin, hA, hB]), rfl⟩
theorem spec_sew (a b : Int) (w : World) : Calls Try.prog 11 #[.int .i64 a, .int .i64 b] w fun e w' => e = .returned (.int .i64 (sewMin a b)) ∧ w = w' := by
  rcases inB_or a 0 1000000 with ⟨hA, a1, a2⟩ | hA <;> rcases inB_or b 1 2000 with ⟨hB, b1, b2⟩ | hB
  all_goals
    go_enter Try.func11, Try.ntmps11
    go_wp2_with (go_at_call 22; refine (l01In_any _ _ _ _).mono ?_; rintro e w' ⟨rfl, rfl⟩)
    go_ret
    exact ⟨ret_int (by simp [sewMin, hA, hB, upI]), rfl⟩
theorem impl_stitch (a b : Int) (w : World) : Calls Try.prog 14 #[.int .i64 a, .int .i64 b] w fun e w' => e = .returned (.int .i64 (stitches a b)) ∧ w = w' := by
  rcases inB_or a 0 100000 with ⟨hA, a1, a2⟩ | hA <;> rcases inB_or b 1 40 with ⟨hB, b1, b2⟩ | hB
  all_goals (try have bM := sti_mul a1 a2 b1 b2)
  all_goals
    go_enter Try.func14, Try.ntmps14
    go_wp2_with (first | (go_at_call 23; refine (within_any _ _ _ _).mono ?_; rintro e w' ⟨rfl, rfl⟩) | (go_at_call 24; refine (up_any _ _ _ (by omega) (by omega) (by omega) (by omega)).mono ?_; rintro e w' ⟨rfl, rfl⟩))
    go_ret
    exact ⟨ret_int (by simp [stitches, hA, hB]), rfl⟩
theorem spec_stitch (a b : Int) (w : World) : Calls Try.prog 13 #[.int .i64 a, .int .i64 b] w fun e w' => e = .returned (.int .i64 (stitches a b)) ∧ w = w' := by
  rcases inB_or a 0 100000 with ⟨hA, a1, a2⟩ | hA <;> rcases inB_or b 1 40 with ⟨hB, b1, b2⟩ | hB
  all_goals (try have bM := sti_mul a1 a2 b1 b2)
  all_goals
    go_enter Try.func13, Try.ntmps13
    go_wp2_with (go_at_call 22; refine (l01In_any _ _ _ _).mono ?_; rintro e w' ⟨rfl, rfl⟩)
    go_ret
    exact ⟨ret_int (by simp [stitches, hA, hB, upI]; try omega), rfl⟩
theorem impl_thread (a : Int) (w : World) : Calls Try.prog 16 #[.int .i64 a] w fun e w' => e = .returned (.int .i64 (threadFor a)) ∧ w = w' := by
  rcases inB_or a 0 100000 with ⟨hA, a1, a2⟩ | hA
  all_goals
    go_enter Try.func16, Try.ntmps16
    go_wp2_with (first | (go_at_call 23; refine (within_any _ _ _ _).mono ?_; rintro e w' ⟨rfl, rfl⟩) | (go_at_call 24; refine (up_any _ _ _ (by omega) (by omega) (by omega) (by omega)).mono ?_; rintro e w' ⟨rfl, rfl⟩))
    go_ret
    exact ⟨ret_int (by simp [threadFor, hA]), rfl⟩
theorem spec_thread (a : Int) (w : World) : Calls Try.prog 15 #[.int .i64 a] w fun e w' => e = .returned (.int .i64 (threadFor a)) ∧ w = w' := by
  rcases inB_or a 0 100000 with ⟨hA, a1, a2⟩ | hA
  all_goals
    go_enter Try.func15, Try.ntmps15
    go_wp2_with (go_at_call 22; refine (l01In_any _ _ _ _).mono ?_; rintro e w' ⟨rfl, rfl⟩)
    go_ret
    exact ⟨ret_int (by simp [threadFor, hA, upI]; try omega), rfl⟩
theorem up2_bd {a : Int} (h1 : 0 ≤ a) (h2 : a ≤ 1000000) : 0 ≤ upI a 2 ∧ upI a 2 ≤ 1000000 := by unfold upI; omega
theorem impl_bobbins (a b : Int) (w : World) : Calls Try.prog 18 #[.int .i64 a, .int .i64 b] w fun e w' => e = .returned (.int .i64 (bobbins a b)) ∧ w = w' := by
  rcases inB_or a 0 1000000 with ⟨hA, a1, a2⟩ | hA <;> rcases inB_or b 1 10000 with ⟨hB, b1, b2⟩ | hB
  all_goals (try have bM := up2_bd a1 a2)
  all_goals
    go_enter Try.func18, Try.ntmps18
    go_wp2_with (first | (go_at_call 23; refine (within_any _ _ _ _).mono ?_; rintro e w' ⟨rfl, rfl⟩) | (go_at_call 24; refine (up_any _ _ _ (by omega) (by omega) (by omega) (by omega)).mono ?_; rintro e w' ⟨rfl, rfl⟩))
    go_ret
    exact ⟨ret_int (by simp [bobbins, hA, hB]), rfl⟩
theorem spec_bobbins (a b : Int) (w : World) : Calls Try.prog 17 #[.int .i64 a, .int .i64 b] w fun e w' => e = .returned (.int .i64 (bobbins a b)) ∧ w = w' := by
  rcases inB_or a 0 1000000 with ⟨hA, a1, a2⟩ | hA <;> rcases inB_or b 1 10000 with ⟨hB, b1, b2⟩ | hB
  all_goals (try have bM := up2_bd a1 a2)
  all_goals (try have bN : upI a 2 = (a + 1) / 2 := by unfold upI; omega)
  all_goals
    go_enter Try.func17, Try.ntmps17
    go_wp2_with (go_at_call 22; refine (l01In_any _ _ _ _).mono ?_; rintro e w' ⟨rfl, rfl⟩)
    go_ret
    refine ⟨ret_int ?_, rfl⟩
    first | (simp [bobbins, hA, hB]; done) | (simp [bobbins, hA, hB]; rw [bN]; rfl)
end Go.Proofs.Ytjldigdbbbimaaa
