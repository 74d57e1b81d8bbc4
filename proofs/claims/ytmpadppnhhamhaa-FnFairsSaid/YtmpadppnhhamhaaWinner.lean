/- Contracts of PairWinner: the program's and the reference's. -/
import Derived.Test.YtmpadppnhhamhaaBeats
import Derived.Test.YtmpadppnhhamhaaPureX
namespace Go.Proofs.Ytmpadppnhhamhaa
open Go.ChangeShapes Go.WideShapes Go.ChangeAt Go.RowKit
set_option maxHeartbeats 4000000 in
theorem impl_winner (A : Option Addr) (n c : Nat) (z : Nat → List Int) (B : Nat) (w : World) (h : RowII w B A n c z) (hB : B ≤ w.heap.size) :
    Calls Try.prog 24 #[.slice A n c] w fun e w' => e = .returned (.int .i64 (winner z n)) ∧ Below w.heap.size w w' := by
  rcases Bool.eq_false_or_eq_true (sheetOk z n) with hO | hO
  · obtain ⟨m, hm⟩ : ∃ m, m = (z 0).length := ⟨_, rfl⟩
    have hS : Sheet z n m := by rw [hm]; exact sheetOk_t hO
    have p0 := hS.n1
    have p9 := hS.n9
    have m1 := hS.m1
    have m12 := hS.m12
    have HE := Lib.hid (show winner z n = winGo z n m (m - 0) by unfold winner; rw [hO, ← hm]; rfl)
    have HM := Lib.hid hm
    clear hm
    go_enter Try.func24, Try.ntmps24
    go_wp2_with fail
    refine (impl_sheetOk A n c z B _ h).mono ?_
    rintro e w' ⟨rfl, rfl⟩
    obtain ⟨b, off, rfl, hbB, hrows⟩ := h.2.2 (by omega)
    obtain ⟨A0, c0, hc0, _⟩ := hrows 0 (by omega)
    rw [Nat.add_zero, ← HM.out] at hc0
    clear hrows
    go_wp2_with fail
    go_loopw [3, 4, 5, 13] (fun _ _ _ v wr => ∃ i : Nat, i ≤ m ∧ v = .int .i64 i ∧ Hid (winner z n = winGo z n m (m - i)) ∧ Below w.heap.size w wr) (fun _ _ _ v _ => m - (intOf v).toNat)
    case atStart => exact ⟨0, Nat.zero_le _, rfl, HE, Below.refl _ _⟩
    case round =>
      obtain ⟨i, hi, rfl, hE, hb⟩ := hrel
      clear HE
      by_cases hlt : i < m
      · have hc1 := (hb.cell (p := ⟨b, off, none⟩) (by show b < _; omega)).trans hc0
        obtain ⟨wo, rfl⟩ : ∃ wo : World, wo = wr := ⟨_, rfl⟩
        go_wp2_with fail
        go_loopw [4, 5, 20] (fun t _ u wr => ∃ k : Nat, k ≤ m ∧ u = .int .i64 k ∧ t = .bool (beatAll z n i k) ∧ Below w.heap.size w wr) (fun _ _ u _ => m - (intOf u).toNat)
        case atStart => exact ⟨0, Nat.zero_le _, rfl, rfl, hb⟩
        case round =>
          clear hb hc1
          obtain ⟨k, hk, rfl, rfl, hb⟩ := hrel
          have hc1 := (hb.cell (p := ⟨b, off, none⟩) (by show b < _; omega)).trans hc0
          by_cases hkl : k < m
          · have HS := Lib.hid (show beatAll z n i (k + 1) = (beatAll z n i k && (((i : Int) == (k : Int)) || beats z n i k)) from rfl)
            rcases Bool.eq_false_or_eq_true (beatAll z n i k) with hA | hA
            · rcases (by omega : i < k ∨ k < i ∨ i = k) with q | q | q
              · have q1 : ((i : Int) == (k : Int)) = false := beq_eq_false_iff_ne.2 (by omega)
                have q2 : ((k : Int) == (i : Int)) = false := beq_eq_false_iff_ne.2 (by omega)
                rw [hA, q1] at HS
                go_wp2_with fail
                refine (impl_beats _ n c z i k B _ (h.keep fun p hp => hb.cell (by omega)) (by have := hb.size; omega)).mono ?_
                rintro e w4 ⟨rfl, hb4⟩
                have hb5 := hb.trans (hb4.mono hb.size)
                clear hb4 hb hc1 q1 q2
                go_wp2
                go_roundw
                case rel => exact ⟨k + 1, by omega, by go_num, by rw [HS.out]; simp, hb5⟩
                case measure => simp [intOf]; omega
              · have q1 : ((i : Int) == (k : Int)) = false := beq_eq_false_iff_ne.2 (by omega)
                have q2 : ((k : Int) == (i : Int)) = false := beq_eq_false_iff_ne.2 (by omega)
                rw [hA, q1] at HS
                go_wp2_with fail
                refine (impl_beats _ n c z i k B _ (h.keep fun p hp => hb.cell (by omega)) (by have := hb.size; omega)).mono ?_
                rintro e w4 ⟨rfl, hb4⟩
                have hb5 := hb.trans (hb4.mono hb.size)
                clear hb4 hb hc1 q1 q2
                go_wp2
                go_roundw
                case rel => exact ⟨k + 1, by omega, by go_num, by rw [HS.out]; simp, hb5⟩
                case measure => simp [intOf]; omega
              · subst q
                rw [hA, show (((i : Int) == (i : Int)) = true) by simp] at HS
                go_wp2
                go_roundw
                case rel => exact ⟨i + 1, by omega, by go_num, by rw [HS.out]; rfl, hb⟩
                case measure => simp [intOf]; omega
            · rw [hA] at HS
              go_wp2
              go_roundw
              case rel => exact ⟨k + 1, by omega, by go_num, by rw [HS.out]; rfl, hb⟩
              case measure => simp [intOf]; omega
          · obtain rfl : k = m := by omega
            have hW := winGo_step (z := z) (n := n) hlt
            rcases Bool.eq_false_or_eq_true (beatAll z n i k) with hA | hA
            · rw [hA, if_pos rfl, ← hE.out] at hW
              have HW := Lib.hid hW
              clear hW
              rw [hA]
              go_wp2
              go_ret
              exact ⟨ret_int HW.out.symm, hb⟩
            · rw [hA, if_neg (by simp), ← hE.out] at hW
              have HW := Lib.hid hW
              clear hW
              rw [hA]
              go_wp2
              go_roundw
              case rel => exact ⟨i + 1, by omega, by go_num, HW, hb⟩
              case measure => simp [intOf]; omega
      · obtain rfl : i = m := by omega
        have HW := Lib.hid (show winner z n = -1 by rw [hE.out, Nat.sub_self]; rfl)
        have hc1 := (hb.cell (p := ⟨b, off, none⟩) (by show b < _; omega)).trans hc0
        go_wp2
        go_ret
        exact ⟨ret_int HW.out.symm, hb⟩
  · have HE := Lib.hid (show winner z n = -1 by unfold winner; rw [hO]; rfl)
    go_enter Try.func24, Try.ntmps24
    go_wp2_with fail
    refine (impl_sheetOk A n c z B _ h).mono ?_
    rintro e w' ⟨rfl, rfl⟩
    go_wp2
    go_ret
    exact ⟨ret_int HE.out.symm, Below.refl _ _⟩
set_option maxHeartbeats 4000000 in
theorem spec_winner (A : Option Addr) (n c : Nat) (z : Nat → List Int) (B : Nat) (w : World) (h : RowII w B A n c z) (hB : B ≤ w.heap.size) :
    Calls Try.prog 23 #[.slice A n c] w fun e w' => e = .returned (.int .i64 (winner z n)) ∧ Below w.heap.size w w' := by
  rcases Bool.eq_false_or_eq_true (sheetOk z n) with hO | hO
  · obtain ⟨m, hm⟩ : ∃ m, m = (z 0).length := ⟨_, rfl⟩
    have hS : Sheet z n m := by rw [hm]; exact sheetOk_t hO
    have p0 := hS.n1
    have p9 := hS.n9
    have m1 := hS.m1
    have m12 := hS.m12
    have HE := Lib.hid (show winner z n = winGo z n m (m - 0) by unfold winner; rw [hO, ← hm]; rfl)
    have HM := Lib.hid hm
    clear hm
    go_enter Try.func23, Try.ntmps23
    go_wp2_with fail
    refine (spec_sheetOk_b A n c z B _ h).mono ?_
    rintro e w0 ⟨rfl, hb0⟩
    have hz0 := hb0.size
    replace h : RowII w0 B A n c z := h.keep fun p hp => hb0.cell (by omega)
    obtain ⟨b, off, rfl, hbB, hrows⟩ := h.2.2 (by omega)
    obtain ⟨A0, c0, hc0, _⟩ := hrows 0 (by omega)
    rw [Nat.add_zero, ← HM.out] at hc0
    clear hrows
    go_wp2_with fail
    go_loopw [3, 4, 5] (fun v _ _ wr => ∃ i : Nat, i ≤ m ∧ v = .int .i64 i ∧ Hid (winner z n = winGo z n m (m - i)) ∧ Below w0.heap.size w0 wr) (fun v _ _ _ => m - (intOf v).toNat)
    case atStart => exact ⟨0, Nat.zero_le _, rfl, HE, Below.refl _ _⟩
    case round =>
      obtain ⟨i, hi, rfl, hE, hb⟩ := hrel
      clear HE
      by_cases hlt : i < m
      · have hc1 := (hb.cell (p := ⟨b, off, none⟩) (by show b < _; omega)).trans hc0
        obtain ⟨wo, rfl⟩ : ∃ wo : World, wo = wr := ⟨_, rfl⟩
        go_wp2_with fail
        go_loopw [4, 5] (fun t u wr => ∃ k : Nat, k ≤ m ∧ u = .int .i64 k ∧ t = .bool (beatAll z n i k) ∧ Below w0.heap.size w0 wr) (fun _ u _ => m - (intOf u).toNat)
        case atStart => exact ⟨0, Nat.zero_le _, rfl, rfl, hb⟩
        case round =>
          clear hb hc1
          obtain ⟨k, hk, rfl, rfl, hb⟩ := hrel
          have hc1 := (hb.cell (p := ⟨b, off, none⟩) (by show b < _; omega)).trans hc0
          by_cases hkl : k < m
          · have HS := Lib.hid (show beatAll z n i (k + 1) = (beatAll z n i k && (((i : Int) == (k : Int)) || beats z n i k)) from rfl)
            rcases Bool.eq_false_or_eq_true (beatAll z n i k) with hA | hA
            · rcases (by omega : i < k ∨ k < i ∨ i = k) with q | q | q
              · have q1 : ((i : Int) == (k : Int)) = false := beq_eq_false_iff_ne.2 (by omega)
                have q2 : ((k : Int) == (i : Int)) = false := beq_eq_false_iff_ne.2 (by omega)
                rw [hA, q1] at HS
                go_wp2_with fail
                refine (spec_beats _ n c z i k B _ (h.keep fun p hp => hb.cell (by omega)) (by have := hb.size; omega)).mono ?_
                rintro e w4 ⟨rfl, hb4⟩
                have hb5 := hb.trans (hb4.mono hb.size)
                clear hb4 hb hc1 q1 q2
                go_wp2
                go_roundw
                case rel => exact ⟨k + 1, by omega, by go_num, by rw [HS.out]; simp, hb5⟩
                case measure => simp [intOf]; omega
              · have q1 : ((i : Int) == (k : Int)) = false := beq_eq_false_iff_ne.2 (by omega)
                have q2 : ((k : Int) == (i : Int)) = false := beq_eq_false_iff_ne.2 (by omega)
                rw [hA, q1] at HS
                go_wp2_with fail
                refine (spec_beats _ n c z i k B _ (h.keep fun p hp => hb.cell (by omega)) (by have := hb.size; omega)).mono ?_
                rintro e w4 ⟨rfl, hb4⟩
                have hb5 := hb.trans (hb4.mono hb.size)
                clear hb4 hb hc1 q1 q2
                go_wp2
                go_roundw
                case rel => exact ⟨k + 1, by omega, by go_num, by rw [HS.out]; simp, hb5⟩
                case measure => simp [intOf]; omega
              · subst q
                rw [hA, show (((i : Int) == (i : Int)) = true) by simp] at HS
                go_wp2
                go_roundw
                case rel => exact ⟨i + 1, by omega, by go_num, by rw [HS.out]; rfl, hb⟩
                case measure => simp [intOf]; omega
            · rw [hA] at HS
              go_wp2
              go_roundw
              case rel => exact ⟨k + 1, by omega, by go_num, by rw [HS.out]; rfl, hb⟩
              case measure => simp [intOf]; omega
          · obtain rfl : k = m := by omega
            have hW := winGo_step (z := z) (n := n) hlt
            rcases Bool.eq_false_or_eq_true (beatAll z n i k) with hA | hA
            · rw [hA, if_pos rfl, ← hE.out] at hW
              have HW := Lib.hid hW
              clear hW
              rw [hA]
              go_wp2
              go_ret
              exact ⟨ret_int HW.out.symm, hb0.trans (hb.mono hb0.size)⟩
            · rw [hA, if_neg (by simp), ← hE.out] at hW
              have HW := Lib.hid hW
              clear hW
              rw [hA]
              go_wp2
              go_roundw
              case rel => exact ⟨i + 1, by omega, by go_num, HW, hb⟩
              case measure => simp [intOf]; omega
      · obtain rfl : i = m := by omega
        have HW := Lib.hid (show winner z n = -1 by rw [hE.out, Nat.sub_self]; rfl)
        have hc1 := (hb.cell (p := ⟨b, off, none⟩) (by show b < _; omega)).trans hc0
        go_wp2
        go_ret
        exact ⟨ret_int HW.out.symm, hb0.trans (hb.mono hb0.size)⟩
  · have HE := Lib.hid (show winner z n = -1 by unfold winner; rw [hO]; rfl)
    go_enter Try.func23, Try.ntmps23
    go_wp2_with fail
    refine (spec_sheetOk_b A n c z B _ h).mono ?_
    rintro e w0 ⟨rfl, hb0⟩
    have hz0 := hb0.size
    replace h : RowII w0 B A n c z := h.keep fun p hp => hb0.cell (by omega)
    go_wp2
    go_ret
    exact ⟨ret_int HE.out.symm, hb0⟩
end Go.Proofs.Ytmpadppnhhamhaa
