/- Contracts of ArePairs. -/
import Derived.Test.YtkglgbdiakinlaaRound
import Derived.Test.YtkglgbdiakinlaaSends
namespace Go.Proofs.Ytkglgbdiakinlaa
open Go.ChangeShapes Go.WideShapes Go.ChangeAt Go.RowKit
set_option maxHeartbeats 4000000 in
theorem impl_pairs (n : Int) (A : Option Addr) (l c : Nat) (z : Nat → List Int) (B : Nat) (w : World) (h : RowII w B A l c z) (hB : B ≤ w.heap.size) :
    Calls Try.prog 35 #[.int .i64 n, .slice A l c] w fun e w' => e = .returned (.bool (pairsOk n z l)) ∧ Below w.heap.size w w' := by
  have hcap := h.cap
  unfold maxLen at hcap
  rcases Bool.eq_false_or_eq_true (roundsOk n z l) with hO | hO
  · have hP := rounds_of hO
    have l9 := hP.l9
    have n9 := hP.n9
    have HQ := Lib.hid (fun j k (hj : j < l) (hk : k < (z j).length) => pairs_no (n := n) hj hk)
    go_enter Try.func35, Try.ntmps35
    go_wp2_with fail
    refine (impl_rounds n A l c z B _ h hB).mono ?_
    rintro e w1 ⟨rfl, hb1⟩
    rw [hO]
    have HO := Lib.hid hO
    clear hO
    have h2 : RowII w1 B A l c z := h.keep fun p hp => hb1.cell (by omega)
    go_wp2_with fail
    go_loop [6, 7, 8, 15] (fun _ _ _ i => ∃ r : Nat, r ≤ l ∧ i = .int .i64 r ∧ Hid (pairsTo z r = true)) (fun _ _ _ i => l - (intOf i).toNat)
    case atStart => exact ⟨0, by omega, rfl, Lib.hid rfl⟩
    case round =>
      obtain ⟨r, hr, rfl, hT⟩ := hrel
      by_cases hlt : r < l
      · obtain ⟨b, off, rfl, hbB, Aj, cj, hcj, hrj⟩ := h2.at_ hlt
        have r0 : (0 : Int) ≤ (r : Int) := by omega
        have r3 : (r : Int) < (l : Int) := by omega
        have hlen := hP.len r hlt
        have hl10 : (z r).length ≤ 10 := by omega
        have HL := Lib.hid hlen
        clear hlen
        go_wp2_with fail
        go_loop [7, 8, 21] (fun _ _ i => ∃ k : Nat, k ≤ (z r).length ∧ i = .int .i64 k ∧ Hid (allTo (pairAt (z r)) k = true)) (fun _ _ i => (z r).length - (intOf i).toNat)
        case atStart => exact ⟨0, by omega, rfl, Lib.hid rfl⟩
        case round =>
          obtain ⟨k, hk, rfl, hN⟩ := hrel
          by_cases hkl : k < (z r).length
          · have hbk := hP.bd r hlt k hkl
            obtain ⟨bj, oj, rfl, hbj, hxs⟩ := hrj.2.2.2.2 (by omega)
            have hx := hxs k hkl
            obtain ⟨X, hX⟩ : ∃ X : Nat, nth (z r) k = X := ⟨(nth (z r) k).toNat, by omega⟩
            have hXl : X < (z r).length := by have := HL.out; omega
            have hx2 := hxs X hXl
            clear hxs
            rw [hX] at hx hbk
            have HD := Lib.hid (show pairAt (z r) k = (nth (z r) X == (k : Int)) by unfold pairAt; rw [hX]; rfl)
            clear hX
            have k0 : (0 : Int) ≤ (k : Int) := by omega
            have k3 : (k : Int) < ((z r).length : Int) := by omega
            have x0 : (0 : Int) ≤ (X : Int) := by omega
            have x3 : (X : Int) < ((z r).length : Int) := by omega
            rcases Bool.eq_false_or_eq_true (nth (z r) X == (k : Int)) with a | a
            · have HN := Lib.hid (allTo_step hN.out (HD.out.trans a))
              have a2 : (nth (z r) X != (k : Int)) = false := by simp [bne, a]
              go_wp2
              go_round
              case rel => exact ⟨k + 1, by omega, by go_num, HN⟩
              case measure => simp [intOf]; omega
            · have HE := Lib.hid (HQ.out r k hlt hkl (HD.out.trans a))
              have a2 : (nth (z r) X != (k : Int)) = true := by simp [bne, a]
              go_wp2
              go_ret
              exact ⟨ret_bool HE.out.symm, hb1⟩
          · have HT := Lib.hid (show pairsTo z (r + 1) = true from allTo_step (p := fun j => pairRow (z j)) hT.out (by have e := hN.out; rw [show k = (z r).length by omega] at e; exact e))
            have k3 : ¬ (k : Int) < ((z r).length : Int) := by omega
            go_wp2
            go_round
            case rel => exact ⟨r + 1, by omega, by go_num, HT⟩
            case measure => simp [intOf]; omega
      · have HE := Lib.hid (show pairsOk n z l = true by have e := hT.out; rw [show r = l by omega] at e; unfold pairsOk; rw [HO.out, e]; rfl)
        have r3 : ¬ (r : Int) < (l : Int) := by omega
        go_wp2
        go_ret
        exact ⟨ret_bool HE.out.symm, hb1⟩
  · have HE := Lib.hid (show pairsOk n z l = false by unfold pairsOk; rw [hO]; rfl)
    go_enter Try.func35, Try.ntmps35
    go_wp2_with fail
    refine (impl_rounds n A l c z B _ h hB).mono ?_
    rintro e w1 ⟨rfl, hb1⟩
    rw [hO]
    go_wp2
    go_ret
    exact ⟨ret_bool HE.out.symm, hb1⟩
set_option maxHeartbeats 4000000 in
theorem spec_pairs (n : Int) (A : Option Addr) (l c : Nat) (z : Nat → List Int) (B : Nat) (w : World) (h : RowII w B A l c z) (hB : B ≤ w.heap.size) :
    Calls Try.prog 34 #[.int .i64 n, .slice A l c] w fun e w' => e = .returned (.bool (pairsOk n z l)) ∧ Below w.heap.size w w' := by
  have hcap := h.cap
  unfold maxLen at hcap
  rcases Bool.eq_false_or_eq_true (roundsOk n z l) with hO | hO
  · have hP := rounds_of hO
    have l9 := hP.l9
    have n9 := hP.n9
    have HQ := Lib.hid (fun j k (hj : j < l) (hk : k < (z j).length) => pairs_no (n := n) hj hk)
    go_enter Try.func34, Try.ntmps34
    go_wp2_with fail
    refine (spec_rounds n A l c z B _ h hB).mono ?_
    rintro e w1 ⟨rfl, hb1⟩
    rw [hO]
    have HO := Lib.hid hO
    clear hO
    have h2 : RowII w1 B A l c z := h.keep fun p hp => hb1.cell (by omega)
    clear h
    go_wp2_with fail
    go_loopw [5, 6] (fun i _ wr => ∃ r : Nat, r ≤ l ∧ i = .int .i64 r ∧ Hid (pairsTo z r = true) ∧ Below w.heap.size w wr ∧ RowII wr B A l c z) (fun i _ _ => l - (intOf i).toNat)
    case atStart => exact ⟨0, by omega, rfl, Lib.hid rfl, hb1, h2⟩
    case round =>
      clear hb1 h2
      obtain ⟨r, hr, rfl, hT, hb1, h2⟩ := hrel
      by_cases hlt : r < l
      · have r0 : (0 : Int) ≤ (r : Int) := by omega
        have r3 : (r : Int) < (l : Int) := by omega
        have hlen := hP.len r hlt
        have hl10 : (z r).length ≤ 10 := by omega
        have HL := Lib.hid hlen
        clear hlen
        go_wp2_with fail
        obtain ⟨wo, rfl⟩ : ∃ wo : World, wo = wr := ⟨_, rfl⟩
        go_loopw [6] (fun i wr => ∃ k : Nat, k ≤ (z r).length ∧ i = .int .i64 k ∧ Hid (allTo (pairAt (z r)) k = true) ∧ Below w.heap.size w wr ∧ RowII wr B A l c z) (fun i _ => (z r).length - (intOf i).toNat)
        case atStart => exact ⟨0, by omega, rfl, Lib.hid rfl, hb1, h2⟩
        case round =>
          clear hb1 h2
          obtain ⟨k, hk, rfl, hN, hb1, h2⟩ := hrel
          by_cases hkl : k < (z r).length
          · obtain ⟨b, off, rfl, hbB, Aj, cj, hcj, hrj⟩ := h2.at_ hlt
            have hbk := hP.bd r hlt k hkl
            obtain ⟨bj, oj, rfl, hbj, hxs⟩ := hrj.2.2.2.2 (by omega)
            have hx := hxs k hkl
            obtain ⟨X, hX⟩ : ∃ X : Nat, nth (z r) k = X := ⟨(nth (z r) k).toNat, by omega⟩
            have hXl : X < (z r).length := by have := HL.out; omega
            have hx2 := hxs X hXl
            clear hxs
            rw [hX] at hx hbk
            have HD := Lib.hid (show pairAt (z r) k = (nth (z r) X == (k : Int)) by unfold pairAt; rw [hX]; rfl)
            clear hX
            have k0 : (0 : Int) ≤ (k : Int) := by omega
            have k3 : (k : Int) < ((z r).length : Int) := by omega
            have k4 : (k : Int) < n := by have := HL.out; omega
            have x0 : (0 : Int) ≤ (X : Int) := by omega
            have x3 : (X : Int) < ((z r).length : Int) := by omega
            rcases Bool.eq_false_or_eq_true (nth (z r) X == (k : Int)) with a | a
            · have HN := Lib.hid (allTo_step hN.out (HD.out.trans a))
              have a2 : (nth (z r) X != (k : Int)) = false := by simp [bne, a]
              go_wp2_with fail
              go_quiet (fail)
              go_wp2
              go_roundw
              case rel => exact ⟨k + 1, by omega, by go_num, HN, ⟨hb1.os, hb1.tape, hb1.output, hb1.size, hb1.block⟩, h2⟩
              case measure => simp [intOf]; omega
            · have HE := Lib.hid (HQ.out r k hlt hkl (HD.out.trans a))
              have a2 : (nth (z r) X != (k : Int)) = true := by simp [bne, a]
              go_wp2_with fail
              go_quiet (fail)
              go_wp2
              go_ret
              exact ⟨ret_bool HE.out.symm, ⟨hb1.os, hb1.tape, hb1.output, hb1.size, hb1.block⟩⟩
          · have HT := Lib.hid (show pairsTo z (r + 1) = true from allTo_step (p := fun j => pairRow (z j)) hT.out (by have e := hN.out; rw [show k = (z r).length by omega] at e; exact e))
            have k3 : ¬ (k : Int) < n := by have := HL.out; omega
            go_wp2
            go_roundw
            case rel => exact ⟨r + 1, by omega, by go_num, HT, hb1, h2⟩
            case measure => simp [intOf]; omega
      · have HE := Lib.hid (show pairsOk n z l = true by have e := hT.out; rw [show r = l by omega] at e; unfold pairsOk; rw [HO.out, e]; rfl)
        have r3 : ¬ (r : Int) < (l : Int) := by omega
        go_wp2
        go_ret
        exact ⟨ret_bool HE.out.symm, hb1⟩
  · have HE := Lib.hid (show pairsOk n z l = false by unfold pairsOk; rw [hO]; rfl)
    go_enter Try.func34, Try.ntmps34
    go_wp2_with fail
    refine (spec_rounds n A l c z B _ h hB).mono ?_
    rintro e w1 ⟨rfl, hb1⟩
    rw [hO]
    go_wp2
    go_ret
    exact ⟨ret_bool HE.out.symm, hb1⟩
end Go.Proofs.Ytkglgbdiakinlaa
