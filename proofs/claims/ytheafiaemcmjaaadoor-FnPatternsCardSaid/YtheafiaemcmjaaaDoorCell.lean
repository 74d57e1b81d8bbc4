/- Contracts of the functions on cells: the program's and the reference's. -/
import Derived.Test.YtheafiaemcmjaaaDoorNum
import Derived.Test.YtheafiaemcmjaaaDoorPureC
import Derived.Outline
import Derived.Deep.QuietTactic
import Derived.BigQuiet
namespace Go.Proofs.YtheafiaemcmjaaaDoor
open Go.ChangeShapes Go.WideShapes Go.ChangeAt Go.RowKit
theorem to_cell (f : Nat → Int) (w : World) : Calls Tryd.prog 67 #[.agg #[.int .i64 (f 0), .int .i64 (f 1), .int .i64 (f 2)]] w fun e w' => e = .returned (.agg #[.int .i64 (f 0), .int .i64 (f 1), .int .i64 (f 2)]) ∧ Below w.heap.size w w' := by
  go_enter Tryd.func67, Tryd.ntmps67
  go_wp2
  exact bodyPost_ret (v := .agg #[.int .i64 (f 0), .int .i64 (f 1), .int .i64 (f 2)]) (by simp [results, Tryd.results67, go_sem]) rfl ⟨rfl, (((Below.refl _ _).alloc (Nat.le_refl _) _).alloc (by simp) _).alloc (by simp; omega) _⟩
theorem isColor_any (a : Int) (w : World) : Calls Tryd.prog 78 #[.int .i64 a] w fun e w' => e = .returned (.bool (inB a 0 5)) ∧ w = w' := by
  go_enter Tryd.func78, Tryd.ntmps78
  go_wp2_with (go_at_call 64; refine (within_any _ _ _ _).mono ?_; rintro e w' ⟨rfl, rfl⟩)
  go_ret
  exact ⟨rfl, rfl⟩
theorem impl_cellOk (f : Nat → Int) (w : World) : Calls Tryd.prog 61 #[.agg #[.int .i64 (f 0), .int .i64 (f 1), .int .i64 (f 2)]] w fun e w' => e = .returned (.bool (cellOk f)) ∧ Below w.heap.size w w' := by
  rcases inB_or (f 0) 0 2 with ⟨hA, a1, a2⟩ | hA <;> rcases inB_or (f 1) 0 5 with ⟨hB, b1, b2⟩ | hB <;> rcases inB_or (f 2) 0 5 with ⟨hC, c1, c2⟩ | hC
  all_goals
    go_enter Tryd.func61, Tryd.ntmps61
    go_wp2_with (first | (go_at_call 64; refine (within_any _ _ _ _).mono ?_; rintro e w' ⟨rfl, rfl⟩) | (go_at_call 78; refine (isColor_any _ _).mono ?_; rintro e w' ⟨rfl, rfl⟩))
    go_ret
    exact ⟨ret_bool (by simp [cellOk, hA, hB, hC]), (Below.refl _ _).alloc (Nat.le_refl _) _⟩
theorem spec_cellOk (f : Nat → Int) (w : World) : Calls Tryd.prog 35 #[.agg #[.int .i64 (f 0), .int .i64 (f 1), .int .i64 (f 2)]] w fun e w' => e = .returned (.bool (cellOk f)) ∧ Below w.heap.size w w' := by
  rcases inB_or (f 0) 0 2 with ⟨hA, a1, a2⟩ | hA <;> rcases inB_or (f 1) 0 5 with ⟨hB, b1, b2⟩ | hB <;> rcases inB_or (f 2) 0 5 with ⟨hC, c1, c2⟩ | hC
  all_goals
    go_enter Tryd.func35, Tryd.ntmps35
    go_wp2_with (go_at_call 60; refine (l01In_any _ _ _ _).mono ?_; rintro e w' ⟨rfl, rfl⟩)
    go_ret
    exact ⟨ret_bool (by simp [cellOk, hA, hB, hC]), (Below.refl _ _).alloc (Nat.le_refl _) _⟩
end Go.Proofs.YtheafiaemcmjaaaDoor
