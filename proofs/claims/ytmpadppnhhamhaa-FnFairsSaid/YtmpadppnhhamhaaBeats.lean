/- Contracts of BeatsByPairs: the program's and the reference's. -/
import Derived.Test.YtmpadppnhhamhaaTotals
import Derived.Test.YtmpadppnhhamhaaPureW
namespace Go.Proofs.Ytmpadppnhhamhaa
open Go.ChangeShapes Go.WideShapes Go.ChangeAt Go.RowKit
set_option maxHeartbeats 4000000 in
theorem impl_beats (A : Option Addr) (n c : Nat) (z : Nat → List Int) (i k : Int) (B : Nat) (w : World) (h : RowII w B A n c z) (hB : B ≤ w.heap.size) :
    Calls Try.prog 16 #[.slice A n c, .int .i64 i, .int .i64 k] w fun e w' => e = .returned (.bool (beats z n i k)) ∧ Below w.heap.size w w' := by
  rcases Bool.eq_false_or_eq_true (sheetOk z n) with hO | hO
  · obtain ⟨m, hm⟩ : ∃ m, m = (z 0).length := ⟨_, rfl⟩
    have hS : Sheet z n m := by rw [hm]; exact sheetOk_t hO
    have p0 := hS.n1
    have p9 := hS.n9
    have m1 := hS.m1
    have m12 := hS.m12
    have HY := Lib.hid (fun (g1 : inB i 0 (m - 1) = true) (g2 : inB k 0 (m - 1) = true) => beats_yes (z := z) (n := n) (i := i) (k := k) (by rw [hO, ← hm, g1, g2]; rfl))
    have HN1 := Lib.hid (fun (g1 : inB i 0 (m - 1) = false) => beats_no (z := z) (n := n) (i := i) (k := k) (by rw [hO, ← hm, g1]; rfl))
    have HN2 := Lib.hid (fun (g1 : inB k 0 (m - 1) = false) => beats_no (z := z) (n := n) (i := i) (k := k) (by rw [← hm, g1]; simp))
    have HM := Lib.hid hm
    clear hm
    go_enter Try.func16, Try.ntmps16
    go_wp2_with fail
    refine (impl_sheetOk A n c z B _ h).mono ?_
    rintro e w' ⟨rfl, rfl⟩
    obtain ⟨b, off, rfl, hbB, hrows⟩ := h.2.2 (by omega)
    obtain ⟨A0, c0, hc0, _⟩ := hrows 0 (by omega)
    rw [Nat.add_zero, ← HM.out] at hc0
    clear hrows
    rcases inB_or i 0 (m - 1) with ⟨hI, i1, i2⟩ | hI
    · rcases inB_or k 0 (m - 1) with ⟨hK, k1, k2⟩ | hK
      · have HE := Lib.hid (HY.out hI hK)
        obtain ⟨iN, rfl⟩ := Int.eq_ofNat_of_zero_le i1
        obtain ⟨kN, rfl⟩ := Int.eq_ofNat_of_zero_le k1
        rw [Int.toNat_natCast, Int.toNat_natCast] at HE
        have iL : iN < m := by omega
        have kL : kN < m := by omega
        go_wp2_with (go_at_call 35; refine (within_any _ _ _ _).mono ?_; rintro e w' ⟨rfl, rfl⟩)
        go_loopw [7, 9, 35] (fun v _ i wr => ∃ j : Nat, j ≤ n ∧ i = .int .i64 j ∧ v = .int .i64 (margin z iN kN j) ∧ Below w.heap.size w wr) (fun _ _ i _ => n - (intOf i).toNat)
        case atStart => exact ⟨0, Nat.zero_le _, rfl, rfl, Below.refl _ _⟩
        case round =>
          obtain ⟨j, hj, rfl, rfl, hb⟩ := hrel
          have hmb := margin_bd z iN kN j
          by_cases hlt : j < n
          · have h2 : RowII wr B (some ⟨b, off, none⟩) n c z := h.keep fun p hp => hb.cell (by omega)
            obtain ⟨b', off', e', _, Aj, cj, hcj, hrj⟩ := h2.at_ hlt
            simp only [Option.some.injEq, Addr.mk.injEq, and_true] at e'
            obtain ⟨rfl, rfl⟩ := e'
            have hlj := hS.len j hlt
            rw [hlj] at hcj hrj
            clear hlj h2
            obtain ⟨bj, oj, rfl, hbj, hx⟩ := hrj.2.2.2.2 (by omega)
            have hxi := hx iN iL
            have hxk := hx kN kL
            have i0 : (0 : Int) ≤ (iN : Int) := by omega
            have i3 : (iN : Int) < (m : Int) := by omega
            have k0 : (0 : Int) ≤ (kN : Int) := by omega
            have k3 : (kN : Int) < (m : Int) := by omega
            have j0 : (0 : Int) ≤ (j : Int) := by omega
            have j3 : (j : Int) < (n : Int) := by omega
            clear hx hc0
            have HS := Lib.hid (show margin z iN kN (j + 1) = margin z iN kN j + (if nth (z j) kN < nth (z j) iN then 1 else if nth (z j) iN < nth (z j) kN then -1 else 0) from rfl)
            rcases (by omega : nth (z j) kN < nth (z j) iN ∨ nth (z j) iN < nth (z j) kN ∨ (nth (z j) kN ≤ nth (z j) iN ∧ nth (z j) iN ≤ nth (z j) kN)) with q | q | ⟨q, q'⟩
            all_goals
              go_wp2_with fail
              go_quiet (fail)
              go_wp2
              (first | (go_quiet (fail); go_wp2) | skip)
              go_roundw
            all_goals (first | (case rel => refine ⟨j + 1, by omega, by go_num, ?_, ⟨hb.os, hb.tape, hb.output, hb.size, hb.block⟩⟩; rw [HS.out]; congr 1; omega) | skip)
            all_goals (simp [intOf]; omega)
          · obtain rfl : j = n := by omega
            go_wp2
            go_ret
            exact ⟨ret_bool HE.out.symm, hb⟩
      · have HE := Lib.hid (HN2.out hK)
        go_wp2_with (go_at_call 35; refine (within_any _ _ _ _).mono ?_; rintro e w' ⟨rfl, rfl⟩)
        go_ret
        exact ⟨ret_bool HE.out.symm, Below.refl _ _⟩
    · have HE := Lib.hid (HN1.out hI)
      go_wp2_with (go_at_call 35; refine (within_any _ _ _ _).mono ?_; rintro e w' ⟨rfl, rfl⟩)
      go_ret
      exact ⟨ret_bool HE.out.symm, Below.refl _ _⟩
  · have HE := Lib.hid (beats_no (z := z) (n := n) (i := i) (k := k) (by rw [hO]; rfl))
    go_enter Try.func16, Try.ntmps16
    go_wp2_with fail
    refine (impl_sheetOk A n c z B _ h).mono ?_
    rintro e w' ⟨rfl, rfl⟩
    go_wp2
    go_ret
    exact ⟨ret_bool HE.out.symm, Below.refl _ _⟩
set_option maxHeartbeats 4000000 in
theorem spec_beats (A : Option Addr) (n c : Nat) (z : Nat → List Int) (i k : Int) (B : Nat) (w : World) (h : RowII w B A n c z) (hB : B ≤ w.heap.size) :
    Calls Try.prog 15 #[.slice A n c, .int .i64 i, .int .i64 k] w fun e w' => e = .returned (.bool (beats z n i k)) ∧ Below w.heap.size w w' := by
  rcases Bool.eq_false_or_eq_true (sheetOk z n) with hO | hO
  · obtain ⟨m, hm⟩ : ∃ m, m = (z 0).length := ⟨_, rfl⟩
    have hS : Sheet z n m := by rw [hm]; exact sheetOk_t hO
    have p0 := hS.n1
    have p9 := hS.n9
    have m1 := hS.m1
    have m12 := hS.m12
    have HY := Lib.hid (fun (g1 : inB i 0 (m - 1) = true) (g2 : inB k 0 (m - 1) = true) => beats_yes (z := z) (n := n) (i := i) (k := k) (by rw [hO, ← hm, g1, g2]; rfl))
    have HN1 := Lib.hid (fun (g1 : inB i 0 (m - 1) = false) => beats_no (z := z) (n := n) (i := i) (k := k) (by rw [hO, ← hm, g1]; rfl))
    have HN2 := Lib.hid (fun (g1 : inB k 0 (m - 1) = false) => beats_no (z := z) (n := n) (i := i) (k := k) (by rw [← hm, g1]; simp))
    have HM := Lib.hid hm
    clear hm
    go_enter Try.func15, Try.ntmps15
    go_wp2_with fail
    refine (spec_sheetOk_b A n c z B _ h).mono ?_
    rintro e w0 ⟨rfl, hb0⟩
    have hz0 := hb0.size
    replace h : RowII w0 B A n c z := h.keep fun p hp => hb0.cell (by omega)
    obtain ⟨b, off, rfl, hbB, hrows⟩ := h.2.2 (by omega)
    obtain ⟨A0, c0, hc0, _⟩ := hrows 0 (by omega)
    rw [Nat.add_zero, ← HM.out] at hc0
    clear hrows
    rcases inB_or i 0 (m - 1) with ⟨hI, i1, i2⟩ | hI
    · rcases inB_or k 0 (m - 1) with ⟨hK, k1, k2⟩ | hK
      · have HE := Lib.hid (HY.out hI hK)
        obtain ⟨iN, rfl⟩ := Int.eq_ofNat_of_zero_le i1
        obtain ⟨kN, rfl⟩ := Int.eq_ofNat_of_zero_le k1
        rw [Int.toNat_natCast, Int.toNat_natCast] at HE
        have iL : iN < m := by omega
        have kL : kN < m := by omega
        go_wp2_with (go_at_call 33; refine (l01In_any _ _ _ _).mono ?_; rintro e w' ⟨rfl, rfl⟩)
        go_loopw [7, 8] (fun v i wr => ∃ j : Nat, j ≤ n ∧ i = .int .i64 j ∧ v = .int .i64 (margin z iN kN j) ∧ Below w0.heap.size w0 wr) (fun _ i _ => n - (intOf i).toNat)
        case atStart => exact ⟨0, Nat.zero_le _, rfl, rfl, Below.refl _ _⟩
        case round =>
          obtain ⟨j, hj, rfl, rfl, hb⟩ := hrel
          have hmb := margin_bd z iN kN j
          by_cases hlt : j < n
          · have h2 : RowII wr B (some ⟨b, off, none⟩) n c z := h.keep fun p hp => hb.cell (by omega)
            obtain ⟨b', off', e', _, Aj, cj, hcj, hrj⟩ := h2.at_ hlt
            simp only [Option.some.injEq, Addr.mk.injEq, and_true] at e'
            obtain ⟨rfl, rfl⟩ := e'
            have hlj := hS.len j hlt
            rw [hlj] at hcj hrj
            clear hlj h2
            obtain ⟨bj, oj, rfl, hbj, hx⟩ := hrj.2.2.2.2 (by omega)
            have hxi := hx iN iL
            have hxk := hx kN kL
            have i0 : (0 : Int) ≤ (iN : Int) := by omega
            have i3 : (iN : Int) < (m : Int) := by omega
            have k0 : (0 : Int) ≤ (kN : Int) := by omega
            have k3 : (kN : Int) < (m : Int) := by omega
            have j0 : (0 : Int) ≤ (j : Int) := by omega
            have j3 : (j : Int) < (n : Int) := by omega
            clear hx hc0
            have HS := Lib.hid (show margin z iN kN (j + 1) = margin z iN kN j + (if nth (z j) kN < nth (z j) iN then 1 else if nth (z j) iN < nth (z j) kN then -1 else 0) from rfl)
            rcases (by omega : nth (z j) kN < nth (z j) iN ∨ nth (z j) iN < nth (z j) kN ∨ (nth (z j) kN ≤ nth (z j) iN ∧ nth (z j) iN ≤ nth (z j) kN)) with q | q | ⟨q, q'⟩
            all_goals
              go_wp2_with fail
              go_quiet (fail)
              go_wp2
              (first | (go_quiet (fail); go_wp2) | skip)
              go_roundw
            all_goals (first | (case rel => refine ⟨j + 1, by omega, by go_num, ?_, ⟨hb.os, hb.tape, hb.output, hb.size, hb.block⟩⟩; rw [HS.out]; congr 1; omega) | skip)
            all_goals (simp [intOf]; omega)
          · obtain rfl : j = n := by omega
            go_wp2
            go_ret
            exact ⟨ret_bool HE.out.symm, hb0.trans (hb.mono hb0.size)⟩
      · have HE := Lib.hid (HN2.out hK)
        go_wp2_with (go_at_call 33; refine (l01In_any _ _ _ _).mono ?_; rintro e w' ⟨rfl, rfl⟩)
        go_ret
        exact ⟨ret_bool HE.out.symm, hb0⟩
    · have HE := Lib.hid (HN1.out hI)
      go_wp2_with (go_at_call 33; refine (l01In_any _ _ _ _).mono ?_; rintro e w' ⟨rfl, rfl⟩)
      go_ret
      exact ⟨ret_bool HE.out.symm, hb0⟩
  · have HE := Lib.hid (beats_no (z := z) (n := n) (i := i) (k := k) (by rw [hO]; rfl))
    go_enter Try.func15, Try.ntmps15
    go_wp2_with fail
    refine (spec_sheetOk_b A n c z B _ h).mono ?_
    rintro e w0 ⟨rfl, hb0⟩
    have hz0 := hb0.size
    replace h : RowII w0 B A n c z := h.keep fun p hp => hb0.cell (by omega)
    go_wp2
    go_ret
    exact ⟨ret_bool HE.out.symm, hb0⟩
end Go.Proofs.Ytmpadppnhhamhaa
