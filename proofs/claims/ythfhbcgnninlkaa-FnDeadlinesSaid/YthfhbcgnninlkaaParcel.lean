/- Contracts of ParcelOk: the program's and the reference's; and of the copy of a parcel. -/
import Derived.Test.YthfhbcgnninlkaaNum
namespace Go.Proofs.Ythfhbcgnninlkaa
open Go.ChangeShapes Go.WideShapes Go.ChangeAt Go.RowKit
theorem to_parcel (f : Nat → Int) (w : World) : Calls Try.prog 37 #[.agg #[.int .i64 (f 0), .int .i64 (f 1), .int .i64 (f 2), .int .i64 (f 3)]] w fun e w' => e = .returned (.agg #[.int .i64 (f 0), .int .i64 (f 1), .int .i64 (f 2), .int .i64 (f 3)]) ∧ Below w.heap.size w w' := by
  go_enter Try.func37, Try.ntmps37
  go_wp2
  exact bodyPost_ret (v := .agg #[.int .i64 (f 0), .int .i64 (f 1), .int .i64 (f 2), .int .i64 (f 3)]) (by simp [results, Try.results37, go_sem]) rfl ⟨rfl, (((Below.refl _ _).alloc (Nat.le_refl _) _).alloc (by simp) _).alloc (by simp; omega) _⟩
theorem impl_parcelOk (f : Nat → Int) (w : World) : Calls Try.prog 53 #[.agg #[.int .i64 (f 0), .int .i64 (f 1), .int .i64 (f 2), .int .i64 (f 3)]] w fun e w' => e = .returned (.bool (parcelOk f)) ∧ Below w.heap.size w w' := by
  rcases inB_or (f 0) 0 8 with ⟨hA, a1, a2⟩ | hA <;> rcases inB_or (f 1) 0 9 with ⟨hB, b1, b2⟩ | hB <;> rcases inB_or (f 2) 0 9999 with ⟨hC, c1, c2⟩ | hC <;> rcases Bool.eq_false_or_eq_true (f 3 == -1) with hD | hD
  all_goals
    go_enter Try.func53, Try.ntmps53
    go_wp2_with (go_at_call 67; refine (within_any _ _ _ _).mono ?_; rintro e w' ⟨rfl, rfl⟩)
    go_ret
    exact ⟨ret_bool (by simp [parcelOk, hA, hB, hC, hD]), (Below.refl _ _).alloc (Nat.le_refl _) _⟩
theorem spec_parcelOk (f : Nat → Int) (w : World) : Calls Try.prog 66 #[.agg #[.int .i64 (f 0), .int .i64 (f 1), .int .i64 (f 2), .int .i64 (f 3)]] w fun e w' => e = .returned (.bool (parcelOk f)) ∧ Below w.heap.size w w' := by
  rcases inB_or (f 0) 0 8 with ⟨hA, a1, a2⟩ | hA <;> rcases inB_or (f 1) 0 9 with ⟨hB, b1, b2⟩ | hB <;> rcases inB_or (f 2) 0 9999 with ⟨hC, c1, c2⟩ | hC <;> rcases Bool.eq_false_or_eq_true (f 3 == -1) with hD | hD
  all_goals
    go_enter Try.func66, Try.ntmps66
    go_wp2_with (go_at_call 54; refine (l01In_any _ _ _ _).mono ?_; rintro e w' ⟨rfl, rfl⟩)
    go_ret
    exact ⟨ret_bool (by simp [parcelOk, hA, hB, hC, hD]), (Below.refl _ _).alloc (Nat.le_refl _) _⟩
end Go.Proofs.Ythfhbcgnninlkaa
