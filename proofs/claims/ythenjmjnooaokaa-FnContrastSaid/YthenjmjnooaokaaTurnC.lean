/- Contracts of the reference's TurnCell and MirrorCell. -/
import Derived.Test.YthenjmjnooaokaaCell
import Derived.Test.YthenjmjnooaokaaAppS
import Derived.Test.YthenjmjnooaokaaPureCon
import Derived.Outline
import Derived.Deep.DeepCutAuto
namespace Go.Proofs.Ythenjmjnooaokaa
open Go.ChangeShapes Go.WideShapes Go.ChangeAt Go.RowKit
set_option maxHeartbeats 4000000 in
theorem turnCell_any (f : Nat → Int) (w : World) (hO : cellOk f = true) : Calls Try.prog 36 #[.agg #[.int .i64 (f 0), .int .i64 (f 1), .int .i64 (f 2)]] w fun e w' => e = .returned (.agg #[.int .i64 (turnC f 0), .int .i64 (turnC f 1), .int .i64 (turnC f 2)]) ∧ Below w.heap.size w w' := by
  have h01 := (ok_iff f).1 hO
  have HO := Lib.hid hO
  rcases (show ((f 0 == 1) = true ∧ (f 0 == 2) = false) ∨ ((f 0 == 1) = false ∧ (f 0 == 2) = true) ∨ ((f 0 == 1) = false ∧ (f 0 == 2) = false) by simp; omega) with ⟨q1, q2⟩ | ⟨q1, q2⟩ | ⟨q1, q2⟩
  all_goals
    have Q1 := Lib.hid q1
    have Q2 := Lib.hid q2
    clear hO h01
    go_enter Try.func36, Try.ntmps36
    go_wp2_with fail
    refine (spec_cellOk f _).mono ?_
    rintro e w1 ⟨rfl, hb1⟩
    obtain ⟨hcc, hfc⟩ := bcell hb1
    have x0 := (hcc w.heap.size 0 (by simp; omega)).trans (by go_simp : _ = some (.int .i64 (f 0)))
    have x1 := (hcc w.heap.size 1 (by simp; omega)).trans (by go_simp : _ = some (.int .i64 (f 1)))
    have x2 := (hcc w.heap.size 2 (by simp; omega)).trans (by go_simp : _ = some (.int .i64 (f 2)))
    have z0 := (hfc (w.heap.size + 1) 0 (by simp)).trans (by go_simp : _ = false)
    have z1 := (hfc (w.heap.size + 1) 1 (by simp)).trans (by go_simp : _ = false)
    have z2 := (hfc (w.heap.size + 1) 2 (by simp)).trans (by go_simp : _ = false)
    have y0 := (hcc (w.heap.size + 1) 0 (by simp)).trans (by go_simp : _ = some (.int .i64 0))
    have y1 := (hcc (w.heap.size + 1) 1 (by simp)).trans (by go_simp : _ = some (.int .i64 0))
    have y2 := (hcc (w.heap.size + 1) 2 (by simp)).trans (by go_simp : _ = some (.int .i64 0))
    have hb2 := (((Below.refl w.heap.size w).alloc (Nat.le_refl _) (.cells #[.int .i64 (f 0), .int .i64 (f 1), .int .i64 (f 2)] 56)).alloc (by simp) (.cells #[.int .i64 0, .int .i64 0, .int .i64 0] 56)).trans (hb1.mono (by simp; omega))
    have hset : ∀ a b c : Int, Below w.heap.size w (((w1.setCell ⟨w.heap.size + 1, 0, none⟩ (.int .i64 a)).setCell ⟨w.heap.size + 1, 1, none⟩ (.int .i64 b)).setCell ⟨w.heap.size + 1, 2, none⟩ (.int .i64 c)) := fun a b c => ((hb2.setCell (p := ⟨w.heap.size + 1, 0, none⟩) (show w.heap.size ≤ w.heap.size + 1 by omega) _).setCell (p := ⟨w.heap.size + 1, 1, none⟩) (show w.heap.size ≤ w.heap.size + 1 by omega) _).setCell (p := ⟨w.heap.size + 1, 2, none⟩) (show w.heap.size ≤ w.heap.size + 1 by omega) _
    rw [HO.out]
    clear hcc hfc hb1 hb2
    go_wp2
  · exact bodyPost_ret (v := .agg #[.int .i64 (turnC f 0), .int .i64 (turnC f 1), .int .i64 (turnC f 2)]) (by have e1 := beq_iff_eq.1 Q1.out; simp [results, Try.results36, go_sem, y0, y1, y2, z0, z1, z2, turnC, HO.out, e1, cell3]) rfl ⟨rfl, hset _ _ _⟩
  · exact bodyPost_ret (v := .agg #[.int .i64 (turnC f 0), .int .i64 (turnC f 1), .int .i64 (turnC f 2)]) (by have e1 := beq_iff_eq.1 Q2.out; simp [results, Try.results36, go_sem, y0, y1, y2, z0, z1, z2, turnC, HO.out, e1, cell3]) rfl ⟨rfl, hset _ _ _⟩
  · exact bodyPost_ret (v := .agg #[.int .i64 (turnC f 0), .int .i64 (turnC f 1), .int .i64 (turnC f 2)]) (by have e1 := beq_eq_false_iff_ne.1 Q1.out; have e2 := beq_eq_false_iff_ne.1 Q2.out; simp [results, Try.results36, go_sem, y0, y1, y2, z0, z1, z2, turnC, HO.out, e1, e2, cell3]) rfl ⟨rfl, hset _ _ _⟩
set_option maxHeartbeats 4000000 in
theorem mirCell_any (f : Nat → Int) (w : World) (hO : cellOk f = true) : Calls Try.prog 100 #[.agg #[.int .i64 (f 0), .int .i64 (f 1), .int .i64 (f 2)]] w fun e w' => e = .returned (.agg #[.int .i64 (mirC f 0), .int .i64 (mirC f 1), .int .i64 (mirC f 2)]) ∧ Below w.heap.size w w' := by
  have h01 := (ok_iff f).1 hO
  have HO := Lib.hid hO
  have u1 : IntKind.i64.wrap (3 - f 0) = 3 - f 0 := IntWalk.i64_in _ (by omega)
  have u2 : 0 ≤ f 0 := h01.1.1
  have u3 : f 0 ≤ 2 := h01.1.2
  rcases Bool.eq_false_or_eq_true (f 0 == 0) with q1 | q1
  all_goals
    have Q1 := Lib.hid q1
    clear hO h01
    go_enter Try.func100, Try.ntmps100
    go_wp2_with fail
    refine (spec_cellOk f _).mono ?_
    rintro e w1 ⟨rfl, hb1⟩
    obtain ⟨hcc, hfc⟩ := bcell hb1
    have x0 := (hcc w.heap.size 0 (by simp; omega)).trans (by go_simp : _ = some (.int .i64 (f 0)))
    have x1 := (hcc w.heap.size 1 (by simp; omega)).trans (by go_simp : _ = some (.int .i64 (f 1)))
    have x2 := (hcc w.heap.size 2 (by simp; omega)).trans (by go_simp : _ = some (.int .i64 (f 2)))
    have z0 := (hfc (w.heap.size + 1) 0 (by simp)).trans (by go_simp : _ = false)
    have z1 := (hfc (w.heap.size + 1) 1 (by simp)).trans (by go_simp : _ = false)
    have z2 := (hfc (w.heap.size + 1) 2 (by simp)).trans (by go_simp : _ = false)
    have y0 := (hcc (w.heap.size + 1) 0 (by simp)).trans (by go_simp : _ = some (.int .i64 0))
    have y1 := (hcc (w.heap.size + 1) 1 (by simp)).trans (by go_simp : _ = some (.int .i64 0))
    have y2 := (hcc (w.heap.size + 1) 2 (by simp)).trans (by go_simp : _ = some (.int .i64 0))
    have hb2 := (((Below.refl w.heap.size w).alloc (Nat.le_refl _) (.cells #[.int .i64 (f 0), .int .i64 (f 1), .int .i64 (f 2)] 56)).alloc (by simp) (.cells #[.int .i64 0, .int .i64 0, .int .i64 0] 56)).trans (hb1.mono (by simp; omega))
    have hset : ∀ a b c : Int, Below w.heap.size w (((w1.setCell ⟨w.heap.size + 1, 0, none⟩ (.int .i64 a)).setCell ⟨w.heap.size + 1, 1, none⟩ (.int .i64 b)).setCell ⟨w.heap.size + 1, 2, none⟩ (.int .i64 c)) := fun a b c => ((hb2.setCell (p := ⟨w.heap.size + 1, 0, none⟩) (show w.heap.size ≤ w.heap.size + 1 by omega) _).setCell (p := ⟨w.heap.size + 1, 1, none⟩) (show w.heap.size ≤ w.heap.size + 1 by omega) _).setCell (p := ⟨w.heap.size + 1, 2, none⟩) (show w.heap.size ≤ w.heap.size + 1 by omega) _
    rw [HO.out]
    clear hcc hfc hb1 hb2
    go_wp2
  · exact bodyPost_ret (v := .agg #[.int .i64 (mirC f 0), .int .i64 (mirC f 1), .int .i64 (mirC f 2)]) (by have e1 := beq_iff_eq.1 Q1.out; simp [results, Try.results100, go_sem, y0, y1, y2, z0, z1, z2, mirC, HO.out, e1, cell3]) rfl ⟨rfl, hset _ _ _⟩
  · exact bodyPost_ret (v := .agg #[.int .i64 (mirC f 0), .int .i64 (mirC f 1), .int .i64 (mirC f 2)]) (by have e1 := beq_eq_false_iff_ne.1 Q1.out; simp [results, Try.results100, go_sem, y0, y1, y2, z0, z1, z2, mirC, HO.out, e1, cell3]) rfl ⟨rfl, hset _ _ _⟩
end Go.Proofs.Ythenjmjnooaokaa
