/- Contracts of DueDay, SewMinutes, StitchCount, ThreadFor, BobbinsFor: the program's and the reference's. -/
import Derived.Test.YthenjmjnooaokaaNum
namespace Go.Proofs.Ythenjmjnooaokaa
open Go.ChangeShapes Go.WideShapes Go.ChangeAt Go.RowKit
theorem up_any (a b : Int) (w : World) (h1 : 0 ≤ a) (h2 : a ≤ 1000000000) (h3 : 1 ≤ b) (h4 : b ≤ 1000000000) : Calls Try.prog 87 #[.int .i64 a, .int .i64 b] w fun e w' => e = .returned (.int .i64 (upI a b)) ∧ w = w' := by
  go_enter Try.func87, Try.ntmps87
  go_wp2
  all_goals go_ret
  all_goals exact ⟨ret_int (by rfl), rfl⟩
theorem impl_sew (a b : Int) (w : World) : Calls Try.prog 45 #[.int .i64 a, .int .i64 b] w fun e w' => e = .returned (.int .i64 (sewMin a b)) ∧ w = w' := by
  rcases inB_or a 0 1000000 with ⟨hA, a1, a2⟩ | hA <;> rcases inB_or b 1 2000 with ⟨hB, b1, b2⟩ | hB
  all_goals
    go_enter Try.func45, Try.ntmps45
    go_wp2_with (first | (go_at_call 52; refine (within_any _ _ _ _).mono ?_; rintro e w' ⟨rfl, rfl⟩) | (go_at_call 87; refine (up_any _ _ _ (by omega) (by omega) (by omega) (by omega)).mono ?_; rintro e w' ⟨rfl, rfl⟩))
    go_ret
    exact ⟨ret_int (by simp [sewMin, hA, hB]), rfl⟩
theorem impl_stitch (a b : Int) (w : World) : Calls Try.prog 44 #[.int .i64 a, .int .i64 b] w fun e w' => e = .returned (.int .i64 (stitches a b)) ∧ w = w' := by
  rcases inB_or a 0 100000 with ⟨hA, a1, a2⟩ | hA <;> rcases inB_or b 1 40 with ⟨hB, b1, b2⟩ | hB
  all_goals (try have bM := sti_mul a1 a2 b1 b2)
  all_goals
    go_enter Try.func44, Try.ntmps44
    go_wp2_with (first | (go_at_call 52; refine (within_any _ _ _ _).mono ?_; rintro e w' ⟨rfl, rfl⟩) | (go_at_call 87; refine (up_any _ _ _ (by omega) (by omega) (by omega) (by omega)).mono ?_; rintro e w' ⟨rfl, rfl⟩))
    go_ret
    exact ⟨ret_int (by simp [stitches, hA, hB]), rfl⟩
theorem impl_thread (a : Int) (w : World) : Calls Try.prog 46 #[.int .i64 a] w fun e w' => e = .returned (.int .i64 (threadFor a)) ∧ w = w' := by
  rcases inB_or a 0 100000 with ⟨hA, a1, a2⟩ | hA
  all_goals
    go_enter Try.func46, Try.ntmps46
    go_wp2_with (first | (go_at_call 52; refine (within_any _ _ _ _).mono ?_; rintro e w' ⟨rfl, rfl⟩) | (go_at_call 87; refine (up_any _ _ _ (by omega) (by omega) (by omega) (by omega)).mono ?_; rintro e w' ⟨rfl, rfl⟩))
    go_ret
    exact ⟨ret_int (by simp [threadFor, hA]), rfl⟩
theorem spec_thread (a : Int) (w : World) : Calls Try.prog 83 #[.int .i64 a] w fun e w' => e = .returned (.int .i64 (threadFor a)) ∧ w = w' := by
  rcases inB_or a 0 100000 with ⟨hA, a1, a2⟩ | hA
  all_goals
    go_enter Try.func83, Try.ntmps83
    go_wp2_with (go_at_call 50; refine (l01In_any _ _ _ _).mono ?_; rintro e w' ⟨rfl, rfl⟩)
    go_ret
    exact ⟨ret_int (by simp [threadFor, hA, upI]; try omega), rfl⟩
theorem up2_bd {a : Int} (h1 : 0 ≤ a) (h2 : a ≤ 1000000) : 0 ≤ upI a 2 ∧ upI a 2 ≤ 1000000 := by unfold upI; omega
theorem impl_bobbins (a b : Int) (w : World) : Calls Try.prog 47 #[.int .i64 a, .int .i64 b] w fun e w' => e = .returned (.int .i64 (bobbins a b)) ∧ w = w' := by
  rcases inB_or a 0 1000000 with ⟨hA, a1, a2⟩ | hA <;> rcases inB_or b 1 10000 with ⟨hB, b1, b2⟩ | hB
  all_goals (try have bM := up2_bd a1 a2)
  all_goals
    go_enter Try.func47, Try.ntmps47
    go_wp2_with (first | (go_at_call 52; refine (within_any _ _ _ _).mono ?_; rintro e w' ⟨rfl, rfl⟩) | (go_at_call 87; refine (up_any _ _ _ (by omega) (by omega) (by omega) (by omega)).mono ?_; rintro e w' ⟨rfl, rfl⟩))
    go_ret
    exact ⟨ret_int (by simp [bobbins, hA, hB]), rfl⟩
end Go.Proofs.Ythenjmjnooaokaa
