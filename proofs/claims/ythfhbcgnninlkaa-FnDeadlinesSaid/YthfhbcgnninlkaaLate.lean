/- Contracts of DueDay, ParcelOk, LateDays: the program's and the reference's. -/
import Derived.Test.YthfhbcgnninlkaaParcel
import Derived.Test.YthfhbcgnninlkaaPureL
namespace Go.Proofs.Ythfhbcgnninlkaa
open Go.ChangeShapes Go.WideShapes Go.ChangeAt Go.RowKit
theorem impl_due (a b c : Int) (w : World) : Calls Try.prog 50 #[.int .i64 a, .int .i64 b, .int .i64 c] w fun e w' => e = .returned (.int .i64 (dueDay a b c)) ∧ w = w' := by
  rcases inB_or a 0 9999 with ⟨hA, a1, a2⟩ | hA <;> rcases inB_or b 0 8 with ⟨hB, b1, b2⟩ | hB <;> rcases inB_or c 1 365 with ⟨hC, c1, c2⟩ | hC
  all_goals (try have bM := due_mul b1 b2 c1 c2)
  all_goals
    go_enter Try.func50, Try.ntmps50
    go_wp2_with (go_at_call 67; refine (within_any _ _ _ _).mono ?_; rintro e w' ⟨rfl, rfl⟩)
    go_ret
    exact ⟨ret_int (by simp [dueDay, hA, hB, hC]), rfl⟩
theorem spec_due (a b c : Int) (w : World) : Calls Try.prog 65 #[.int .i64 a, .int .i64 b, .int .i64 c] w fun e w' => e = .returned (.int .i64 (dueDay a b c)) ∧ w = w' := by
  rcases inB_or a 0 9999 with ⟨hA, a1, a2⟩ | hA <;> rcases inB_or b 0 8 with ⟨hB, b1, b2⟩ | hB <;> rcases inB_or c 1 365 with ⟨hC, c1, c2⟩ | hC
  all_goals (try have bM := due_mul b1 b2 c1 c2)
  all_goals
    go_enter Try.func65, Try.ntmps65
    go_wp2_with (go_at_call 54; refine (l01In_any _ _ _ _).mono ?_; rintro e w' ⟨rfl, rfl⟩)
    go_ret
    exact ⟨ret_int (by simp [dueDay, hA, hB, hC]), rfl⟩
set_option maxHeartbeats 2000000 in
theorem impl_late (f : Nat → Int) (a c t : Int) (w : World) : Calls Try.prog 38 #[.agg #[.int .i64 (f 0), .int .i64 (f 1), .int .i64 (f 2), .int .i64 (f 3)], .int .i64 a, .int .i64 c, .int .i64 t] w fun e w' => e = .returned (.int .i64 (lateDays f a c t)) ∧ Below w.heap.size w w' := by
  have hd := dueDay_bd a (f 0) c
  rcases Bool.eq_false_or_eq_true (parcelOk f) with hP | hP
  · have hp := parcelOk_t hP
    rcases (by omega : dueDay a (f 0) c < 0 ∨ 0 ≤ dueDay a (f 0) c) with hD | hD
    · have H := Lib.hid (lateDays_no (f := f) (a := a) (c := c) (t := t) (by rw [decide_eq_false (by omega)]; simp))
      go_enter Try.func38, Try.ntmps38
      go_wp2_with fail
      refine (impl_due _ _ _ _).mono ?_
      rintro e w' ⟨rfl, rfl⟩
      go_wp2_with fail
      refine (impl_parcelOk f _).mono ?_
      rintro e w1 ⟨rfl, hb1⟩
      obtain ⟨hc1, hf1⟩ := bcell hb1
      have hz1 : w.heap.size < w1.heap.size := by have := hb1.size; simp at this; omega
      have b1 : Below w.heap.size w w1 := ((Below.refl _ _).alloc (Nat.le_refl _) _).trans (hb1.mono (by simp))
      go_wp2_with (go_at_call 67; refine (within_any _ _ _ _).mono ?_; rintro e w' ⟨rfl, rfl⟩)
      all_goals go_ret
      all_goals exact ⟨ret_int H.out.symm, b1⟩
    · rcases inB_or t 0 99999 with ⟨hT, t1, t2⟩ | hT
      · rcases Bool.eq_false_or_eq_true (f 3 == -1) with h3 | h3
        · have H := Lib.hid (lateDays_yes hP hD hT h3)
          have h3' := WalkArith.int_eq h3
          have g1 : f 3 ≤ -1 := by omega
          have g2 : -1 ≤ f 3 := by omega
          have g3 : (f 3 != -1) = false := by simp [h3']
          clear h3' hp
          go_enter Try.func38, Try.ntmps38
          go_wp2_with fail
          refine (impl_due _ _ _ _).mono ?_
          rintro e w' ⟨rfl, rfl⟩
          go_wp2_with fail
          refine (impl_parcelOk f _).mono ?_
          rintro e w1 ⟨rfl, hb1⟩
          obtain ⟨hc1, hf1⟩ := bcell hb1
          have hz1 : w.heap.size < w1.heap.size := by have := hb1.size; simp at this; omega
          have b1 : Below w.heap.size w w1 := ((Below.refl _ _).alloc (Nat.le_refl _) _).trans (hb1.mono (by simp))
          go_wp2_with (go_at_call 67; refine (within_any _ _ _ _).mono ?_; rintro e w' ⟨rfl, rfl⟩)
          all_goals go_ret
          all_goals refine ⟨ret_int ?_, b1⟩
          all_goals rw [H.out]; omega
        · have H := Lib.hid (lateDays_came hP hD hT h3)
          have h3' := WalkArith.int_ne h3
          have g1 : 0 ≤ f 3 := by omega
          have g2 : f 3 ≤ 9999 := by omega
          have g3 : (f 3 != -1) = true := by simp [h3']
          clear h3' hp
          go_enter Try.func38, Try.ntmps38
          go_wp2_with fail
          refine (impl_due _ _ _ _).mono ?_
          rintro e w' ⟨rfl, rfl⟩
          go_wp2_with fail
          refine (impl_parcelOk f _).mono ?_
          rintro e w1 ⟨rfl, hb1⟩
          obtain ⟨hc1, hf1⟩ := bcell hb1
          have hz1 : w.heap.size < w1.heap.size := by have := hb1.size; simp at this; omega
          have b1 : Below w.heap.size w w1 := ((Below.refl _ _).alloc (Nat.le_refl _) _).trans (hb1.mono (by simp))
          go_wp2_with (go_at_call 67; refine (within_any _ _ _ _).mono ?_; rintro e w' ⟨rfl, rfl⟩)
          all_goals go_ret
          all_goals refine ⟨ret_int ?_, b1⟩
          all_goals rw [H.out]; omega
      · have H := Lib.hid (lateDays_no (f := f) (a := a) (c := c) (t := t) (by rw [hT]; simp))
        clear hp
        go_enter Try.func38, Try.ntmps38
        go_wp2_with fail
        refine (impl_due _ _ _ _).mono ?_
        rintro e w' ⟨rfl, rfl⟩
        go_wp2_with fail
        refine (impl_parcelOk f _).mono ?_
        rintro e w1 ⟨rfl, hb1⟩
        obtain ⟨hc1, hf1⟩ := bcell hb1
        have hz1 : w.heap.size < w1.heap.size := by have := hb1.size; simp at this; omega
        have b1 : Below w.heap.size w w1 := ((Below.refl _ _).alloc (Nat.le_refl _) _).trans (hb1.mono (by simp))
        go_wp2_with (go_at_call 67; refine (within_any _ _ _ _).mono ?_; rintro e w' ⟨rfl, rfl⟩)
        all_goals go_ret
        all_goals exact ⟨ret_int H.out.symm, b1⟩
  · have H := Lib.hid (lateDays_no (f := f) (a := a) (c := c) (t := t) (by rw [hP]; rfl))
    go_enter Try.func38, Try.ntmps38
    go_wp2_with fail
    refine (impl_due _ _ _ _).mono ?_
    rintro e w' ⟨rfl, rfl⟩
    go_wp2_with fail
    refine (impl_parcelOk f _).mono ?_
    rintro e w1 ⟨rfl, hb1⟩
    obtain ⟨hc1, hf1⟩ := bcell hb1
    have hz1 : w.heap.size < w1.heap.size := by have := hb1.size; simp at this; omega
    have b1 : Below w.heap.size w w1 := ((Below.refl _ _).alloc (Nat.le_refl _) _).trans (hb1.mono (by simp))
    go_wp2_with (go_at_call 67; refine (within_any _ _ _ _).mono ?_; rintro e w' ⟨rfl, rfl⟩)
    all_goals go_ret
    all_goals exact ⟨ret_int H.out.symm, b1⟩
set_option maxHeartbeats 2000000 in
theorem spec_late (f : Nat → Int) (a c t : Int) (w : World) : Calls Try.prog 36 #[.agg #[.int .i64 (f 0), .int .i64 (f 1), .int .i64 (f 2), .int .i64 (f 3)], .int .i64 a, .int .i64 c, .int .i64 t] w fun e w' => e = .returned (.int .i64 (lateDays f a c t)) ∧ Below w.heap.size w w' := by
  have hd := dueDay_bd a (f 0) c
  rcases Bool.eq_false_or_eq_true (parcelOk f) with hP | hP
  · have hp := parcelOk_t hP
    rcases (by omega : dueDay a (f 0) c < 0 ∨ 0 ≤ dueDay a (f 0) c) with hD | hD
    · have H := Lib.hid (lateDays_no (f := f) (a := a) (c := c) (t := t) (by rw [decide_eq_false (by omega)]; simp))
      go_enter Try.func36, Try.ntmps36
      go_wp2_with fail
      refine (spec_due _ _ _ _).mono ?_
      rintro e w' ⟨rfl, rfl⟩
      go_wp2_with fail
      refine (spec_parcelOk f _).mono ?_
      rintro e w1 ⟨rfl, hb1⟩
      obtain ⟨hc1, hf1⟩ := bcell hb1
      have hz1 : w.heap.size < w1.heap.size := by have := hb1.size; simp at this; omega
      have b1 : Below w.heap.size w w1 := ((Below.refl _ _).alloc (Nat.le_refl _) _).trans (hb1.mono (by simp))
      go_wp2_with (go_at_call 54; refine (l01In_any _ _ _ _).mono ?_; rintro e w' ⟨rfl, rfl⟩)
      all_goals go_ret
      all_goals exact ⟨ret_int H.out.symm, b1⟩
    · rcases inB_or t 0 99999 with ⟨hT, t1, t2⟩ | hT
      · rcases Bool.eq_false_or_eq_true (f 3 == -1) with h3 | h3
        · have H := Lib.hid (lateDays_yes hP hD hT h3)
          have h3' := WalkArith.int_eq h3
          have g1 : f 3 ≤ -1 := by omega
          have g2 : -1 ≤ f 3 := by omega
          have g3 : (f 3 != -1) = false := by simp [h3']
          clear h3' hp
          go_enter Try.func36, Try.ntmps36
          go_wp2_with fail
          refine (spec_due _ _ _ _).mono ?_
          rintro e w' ⟨rfl, rfl⟩
          go_wp2_with fail
          refine (spec_parcelOk f _).mono ?_
          rintro e w1 ⟨rfl, hb1⟩
          obtain ⟨hc1, hf1⟩ := bcell hb1
          have hz1 : w.heap.size < w1.heap.size := by have := hb1.size; simp at this; omega
          have b1 : Below w.heap.size w w1 := ((Below.refl _ _).alloc (Nat.le_refl _) _).trans (hb1.mono (by simp))
          go_wp2_with (go_at_call 54; refine (l01In_any _ _ _ _).mono ?_; rintro e w' ⟨rfl, rfl⟩)
          all_goals go_ret
          all_goals refine ⟨ret_int ?_, b1⟩
          all_goals rw [H.out]; omega
        · have H := Lib.hid (lateDays_came hP hD hT h3)
          have h3' := WalkArith.int_ne h3
          have g1 : 0 ≤ f 3 := by omega
          have g2 : f 3 ≤ 9999 := by omega
          have g3 : (f 3 != -1) = true := by simp [h3']
          clear h3' hp
          go_enter Try.func36, Try.ntmps36
          go_wp2_with fail
          refine (spec_due _ _ _ _).mono ?_
          rintro e w' ⟨rfl, rfl⟩
          go_wp2_with fail
          refine (spec_parcelOk f _).mono ?_
          rintro e w1 ⟨rfl, hb1⟩
          obtain ⟨hc1, hf1⟩ := bcell hb1
          have hz1 : w.heap.size < w1.heap.size := by have := hb1.size; simp at this; omega
          have b1 : Below w.heap.size w w1 := ((Below.refl _ _).alloc (Nat.le_refl _) _).trans (hb1.mono (by simp))
          go_wp2_with (go_at_call 54; refine (l01In_any _ _ _ _).mono ?_; rintro e w' ⟨rfl, rfl⟩)
          all_goals go_ret
          all_goals refine ⟨ret_int ?_, b1⟩
          all_goals rw [H.out]; omega
      · have H := Lib.hid (lateDays_no (f := f) (a := a) (c := c) (t := t) (by rw [hT]; simp))
        clear hp
        go_enter Try.func36, Try.ntmps36
        go_wp2_with fail
        refine (spec_due _ _ _ _).mono ?_
        rintro e w' ⟨rfl, rfl⟩
        go_wp2_with fail
        refine (spec_parcelOk f _).mono ?_
        rintro e w1 ⟨rfl, hb1⟩
        obtain ⟨hc1, hf1⟩ := bcell hb1
        have hz1 : w.heap.size < w1.heap.size := by have := hb1.size; simp at this; omega
        have b1 : Below w.heap.size w w1 := ((Below.refl _ _).alloc (Nat.le_refl _) _).trans (hb1.mono (by simp))
        go_wp2_with (go_at_call 54; refine (l01In_any _ _ _ _).mono ?_; rintro e w' ⟨rfl, rfl⟩)
        all_goals go_ret
        all_goals exact ⟨ret_int H.out.symm, b1⟩
  · have H := Lib.hid (lateDays_no (f := f) (a := a) (c := c) (t := t) (by rw [hP]; rfl))
    go_enter Try.func36, Try.ntmps36
    go_wp2_with fail
    refine (spec_due _ _ _ _).mono ?_
    rintro e w' ⟨rfl, rfl⟩
    go_wp2_with fail
    refine (spec_parcelOk f _).mono ?_
    rintro e w1 ⟨rfl, hb1⟩
    obtain ⟨hc1, hf1⟩ := bcell hb1
    have hz1 : w.heap.size < w1.heap.size := by have := hb1.size; simp at this; omega
    have b1 : Below w.heap.size w w1 := ((Below.refl _ _).alloc (Nat.le_refl _) _).trans (hb1.mono (by simp))
    go_wp2_with (go_at_call 54; refine (l01In_any _ _ _ _).mono ?_; rintro e w' ⟨rfl, rfl⟩)
    all_goals go_ret
    all_goals exact ⟨ret_int H.out.symm, b1⟩
end Go.Proofs.Ythfhbcgnninlkaa
