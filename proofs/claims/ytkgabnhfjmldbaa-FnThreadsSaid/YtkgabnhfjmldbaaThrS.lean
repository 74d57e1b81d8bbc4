/- Contracts of the functions on drawings of lines: the reference's side. -/
import Derived.Test.YtkgabnhfjmldbaaThr
import Derived.StillTailTactics
namespace Go.Proofs.Ytkgabnhfjmldbaa
open Go.ChangeShapes Go.WideShapes Go.ChangeAt Go.RowKit
theorem quiet_l01In (n a b : Int) (w : World) (m : Nat) {v : Bool} (h : inB n a b = v) : Calls Try.prog 38 #[.int .i64 n, .int .i64 a, .int .i64 b] (w.drewN m) fun e w' => e = .returned (.bool v) ∧ ∃ k, w' = w.drewN k :=
  Calls.quiet_of_same ((l01In_any n a b _).mono fun _ _ ⟨x, y⟩ => ⟨by rw [← h]; exact x, y.symm⟩)
set_option maxHeartbeats 4000000 in
theorem spec_linesOk (n : Int) (A : Option Addr) (l c : Nat) (f : Nat → Nat → Int) (B : Nat) (w : World) (h : RowP 2 w B A l c f) (hB : B ≤ w.heap.size) :
    Calls Try.prog 23 #[.int .i64 n, .slice A l c] w fun e w' => e = .returned (.bool (linesOk n l f)) ∧ Below w.heap.size w w' := by
  have hcap := h.cap
  unfold maxLen at hcap
  rcases inB_or n 1 10 with ⟨hI, n1, n9⟩ | hI
  · have HI := Lib.hid hI
    rcases (by omega : (20 : Int) < (l : Int) ∨ l ≤ 20) with hl | hl
    · have d1 : decide ((20 : Int) < (l : Int)) = true := decide_eq_true hl
      have HE := Lib.hid (show linesOk n l f = false by unfold linesOk; rw [decide_eq_false (show ¬ l ≤ 20 by omega), Bool.and_false]; rfl)
      go_enter Try.func23, Try.ntmps23
      go_wp2_with (go_at_call 38; refine (l01In_any _ _ _ _).mono ?_; rintro e w' ⟨rfl, rfl⟩; rw [hI])
      go_ret
      exact ⟨ret_bool HE.out.symm, Below.refl _ _⟩
    · have d1 : decide ((20 : Int) < (l : Int)) = false := decide_eq_false (by omega)
      have ew : IntKind.i64.wrap (n - 1) = n - 1 := IntWalk.i64_in _ (by omega)
      go_enter Try.func23, Try.ntmps23
      go_wp2_with (go_at_call 38; refine (l01In_any _ _ _ _).mono ?_; rintro e w' ⟨rfl, rfl⟩; rw [hI])
      clear hI d1
      go_loopw [5] (fun i wr => ∃ k : Nat, k ≤ l ∧ i = .int .i64 k ∧ Hid (allTo (fun k => lineOk n (f k)) k = true) ∧ Below w.heap.size w wr) (fun i _ => l - (intOf i).toNat)
      case atStart => exact ⟨0, by omega, rfl, Lib.hid rfl, Below.refl _ _⟩
      case round =>
        obtain ⟨k, hk, rfl, hC, hb⟩ := hrel
        have hbw := hb.size
        by_cases hlt : k < l
        · have h2 : RowP 2 wr B A l c f := h.keep fun p hp => hb.cell (by omega)
          obtain ⟨b, off, rfl, hbB, x0, x1⟩ := h2.lines hlt
          have k0 : (0 : Int) ≤ (k : Int) := by omega
          have k3 : (k : Int) < (l : Int) := by omega
          clear h2
          rcases Bool.eq_false_or_eq_true (inB (f k 0) 0 (n - 1)) with a | a
          · rcases Bool.eq_false_or_eq_true (inB (f k 1) 0 (n - 1)) with b' | b'
            · rcases Bool.eq_false_or_eq_true (f k 0 == f k 1) with d | d
              · have HE := Lib.hid (show linesOk n l f = false from lines_no hlt (by unfold lineOk; rw [d]; simp))
                go_wp2_with fail
                go_quiet (first | (go_at_call 38; with_reducible exact quiet_l01In _ _ _ _ _ a) | (go_at_call 38; with_reducible exact quiet_l01In _ _ _ _ _ b'))
                go_wp2
                go_ret
                exact ⟨ret_bool HE.out.symm, ⟨hb.os, hb.tape, hb.output, hb.size, hb.block⟩⟩
              · have HC := Lib.hid (show allTo (fun k => lineOk n (f k)) (k + 1) = true from allTo_step (p := fun k => lineOk n (f k)) hC.out (by unfold lineOk; rw [a, b', d]; rfl))
                go_wp2_with fail
                go_quiet (first | (go_at_call 38; with_reducible exact quiet_l01In _ _ _ _ _ a) | (go_at_call 38; with_reducible exact quiet_l01In _ _ _ _ _ b'))
                go_wp2
                go_roundw
                case rel => exact ⟨k + 1, by omega, by go_num, HC, ⟨hb.os, hb.tape, hb.output, hb.size, hb.block⟩⟩
                case measure => simp [intOf]; omega
            · have HE := Lib.hid (show linesOk n l f = false from lines_no hlt (by unfold lineOk; rw [b', Bool.and_false]; rfl))
              go_wp2_with fail
              go_quiet (first | (go_at_call 38; with_reducible exact quiet_l01In _ _ _ _ _ a) | (go_at_call 38; with_reducible exact quiet_l01In _ _ _ _ _ b'))
              go_wp2
              go_ret
              exact ⟨ret_bool HE.out.symm, ⟨hb.os, hb.tape, hb.output, hb.size, hb.block⟩⟩
          · have HE := Lib.hid (show linesOk n l f = false from lines_no hlt (by unfold lineOk; rw [a]; rfl))
            go_wp2_with fail
            go_quiet ((go_at_call 38; with_reducible exact quiet_l01In _ _ _ _ _ a))
            go_wp2
            go_ret
            exact ⟨ret_bool HE.out.symm, ⟨hb.os, hb.tape, hb.output, hb.size, hb.block⟩⟩
        · have HE := Lib.hid (show linesOk n l f = true by have e := hC.out; rw [show k = l by omega] at e; unfold linesOk; rw [HI.out, e, decide_eq_true hl]; rfl)
          have k3 : ¬ (k : Int) < (l : Int) := by omega
          go_wp2
          go_ret
          exact ⟨ret_bool HE.out.symm, hb⟩
  · have HE := Lib.hid (show linesOk n l f = false by unfold linesOk; rw [hI]; rfl)
    go_enter Try.func23, Try.ntmps23
    go_wp2_with (go_at_call 38; refine (l01In_any _ _ _ _).mono ?_; rintro e w' ⟨rfl, rfl⟩; rw [hI])
    go_ret
    exact ⟨ret_bool HE.out.symm, Below.refl _ _⟩
set_option maxRecDepth 100000 in
set_option maxHeartbeats 8000000 in
theorem spec_ends (N : Nat) (A : Option Addr) (l c : Nat) (f : Nat → Nat → Int) (B : Nat) (w : World) (h : RowP 2 w B A l c f) (hB : B ≤ w.heap.size) (hN : N ≤ 10) (hl : l ≤ 20) (hf : ∀ k, k < l → 0 ≤ f k 0 ∧ f k 0 < N ∧ 0 ≤ f k 1 ∧ f k 1 < N ∧ f k 0 ≠ f k 1) :
    Calls Try.prog 24 #[.int .i64 N, .slice A l c] w fun e w' => e = .returned (.slice (some ⟨w.heap.size, 0, none⟩) N N) ∧ OwnI w' w.heap.size (.slice (some ⟨w.heap.size, 0, none⟩) N N) (degs N f l) ∧ Below w.heap.size w w' := by
  obtain ⟨i0, hi, hz0, hz1, hz2⟩ := info_parts info_int
  have HF := Lib.hid hf
  clear hf
  go_enter Try.func24, Try.ntmps24
  go_wp2_with (refine wpList_make_full _ rfl _ _ 29 rfl w.heap.size 3 i0 (.int .i64 0) 1 Try.underlying29 hi hz0 hz1 .i64 .i64 _ _ N rfl rfl rfl rfl (by rw [hz2]; omega) (by unfold maxLen; omega) (Nat.le_refl _) ?_; intro w1 hown hgrow)
  have hown1 : OwnI w1 w.heap.size (.slice (some ⟨w.heap.size, 0, none⟩) N N) (degs N f 0) := by rw [degs_zero]; exact owns_zeros hown
  have hb1 : Below w.heap.size w w1 := (Below.refl _ _).grown hgrow (Nat.le_refl _) (fun k h => by cases h)
  clear hown hgrow
  go_loopw [6] (fun i wr => ∃ k : Nat, k ≤ l ∧ i = .int .i64 k ∧ OwnI wr w.heap.size (.slice (some ⟨w.heap.size, 0, none⟩) N N) (degs N f k) ∧ Below w.heap.size w wr) (fun i _ => l - (intOf i).toNat)
  case atStart => exact ⟨0, Nat.zero_le _, rfl, hown1, hb1⟩
  case round =>
    obtain ⟨k, hk, rfl, hown, hb⟩ := hrel
    clear hown1 hb1
    by_cases hlt : k < l
    · have h2 : RowP 2 wr B A l c f := h.keep fun p hp => hb.cell (by omega)
      obtain ⟨b, off, rfl, hbB, x0, x1⟩ := h2.lines hlt
      have k0 : (0 : Int) ≤ (k : Int) := by omega
      have k3 : (k : Int) < (l : Int) := by omega
      obtain ⟨f0, f0N, f1, f1N, fne⟩ := HF.out k hlt
      have hst := degs_step (N := N) f0 f0N f1 f1N fne
      have hbd0 := degTo_bd f (f k 0).toNat k
      have hbd1 := degTo_bd f (f k 1).toNat k
      have e0 : nth (degs N f k) (f k 0).toNat = (degTo f (f k 0).toNat k : Int) := degs_nth f k (by omega)
      have e1 : nth ((degs N f k).set (f k 0).toNat (nth (degs N f k) (f k 0).toNat + 1)) (f k 1).toNat = (degTo f (f k 1).toNat k : Int) := by rw [nth_set (by rw [degs_len]; omega), if_neg (by omega)]; exact degs_nth f k (by omega)
      rw [e1, e0] at hst
      rw [e0] at e1
      obtain ⟨u0, hu0⟩ : ∃ q, q = degTo f (f k 0).toNat k := ⟨_, rfl⟩
      obtain ⟨u1, hu1⟩ : ∃ q, q = degTo f (f k 1).toNat k := ⟨_, rfl⟩
      rw [← hu0] at hst e0 e1 hbd0
      rw [← hu1] at hst e1 hbd1
      have q0 := hown.cellAt (j := (f k 0).toNat) (by rw [degs_len]; omega)
      rw [e0] at q0
      have fr0 := hown.frozenAt (f k 0).toNat
      have gsz := hown.ge
      have o1 := (OwnI.drew hown).stored (f k 0).toNat ((u0 : Int) + 1)
      have o1' := hown.stored (f k 0).toNat ((u0 : Int) + 1)
      have hb2 := hb.setCell (p := ⟨w.heap.size, (f k 0).toNat, none⟩) (Nat.le_refl _) (.int .i64 ((u0 : Int) + 1))
      clear hu0 hu1 hown h2
      go_wp2_with fail
      go_still_tail 16, (by kernel_rfl)
      change wpList _ _ _ _ _ wr.drew
      go_wp2_with fail
      obtain ⟨wm, hwm⟩ : ∃ wm, wm = (wr.setCell ⟨w.heap.size, (f k 0).toNat, none⟩ (.int .i64 ((u0 : Int) + 1))).drew := ⟨_, rfl⟩
      have o2 : OwnI wm w.heap.size (.slice (some ⟨w.heap.size, 0, none⟩) N N) ((degs N f k).set (f k 0).toNat ((u0 : Int) + 1)) := by rw [hwm]; exact o1'
      have hb3 : Below w.heap.size w wm := by rw [hwm]; exact ⟨hb2.os, hb2.tape, hb2.output, hb2.size, hb2.block⟩
      rw [← hwm]
      have x0' : wm.cell? ⟨b, off + k * 2, none⟩ = some (.int .i64 (f k 0)) := (hb3.cell (p := ⟨b, off + k * 2, none⟩) (show b < _ by omega)).trans ((hb.cell (p := ⟨b, off + k * 2, none⟩) (show b < _ by omega)).symm.trans x0)
      have x1' : wm.cell? ⟨b, off + k * 2 + 1, none⟩ = some (.int .i64 (f k 1)) := (hb3.cell (p := ⟨b, off + k * 2 + 1, none⟩) (show b < _ by omega)).trans ((hb.cell (p := ⟨b, off + k * 2 + 1, none⟩) (show b < _ by omega)).symm.trans x1)
      clear hwm o1 o1' hb2 hb x0 x1 q0 fr0
      have q1 := o2.cellAt (j := (f k 1).toNat) (by rw [List.length_set, degs_len]; omega)
      rw [e1] at q1
      have fr1 := o2.frozenAt (f k 1).toNat
      have o3 := o2.stored (f k 1).toNat ((u1 : Int) + 1)
      rw [hst] at o3
      have hb4 := hb3.setCell (p := ⟨w.heap.size, (f k 1).toNat, none⟩) (Nat.le_refl _) (.int .i64 ((u1 : Int) + 1))
      clear o2 hst e0 e1
      try go_wp2_with fail
      go_still_tail 16, (by kernel_rfl)
      change wpList _ _ _ _ _ wm.drew
      go_wp2
      go_roundw
      case rel => exact ⟨k + 1, by omega, by go_num, o3, ⟨hb4.os, hb4.tape, hb4.output, hb4.size, hb4.block⟩⟩
      case measure => simp [intOf]; omega
    · have HE := Lib.hid (show degs N f k = degs N f l by rw [show k = l by omega])
      rw [HE.out] at hown
      have k3 : ¬ (k : Int) < (l : Int) := by omega
      go_wp2
      go_ret
      exact ⟨rfl, hown, hb⟩
end Go.Proofs.Ytkgabnhfjmldbaa
