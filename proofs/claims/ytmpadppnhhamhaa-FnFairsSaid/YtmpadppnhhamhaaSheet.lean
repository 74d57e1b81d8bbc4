/- Contracts of SheetOk: the program's and the reference's. -/
import Derived.Test.YtmpadppnhhamhaaRii2
import Derived.Test.YtmpadppnhhamhaaPureF
namespace Go.Proofs.Ytmpadppnhhamhaa
open Go.ChangeShapes Go.WideShapes Go.ChangeAt Go.RowKit
set_option maxHeartbeats 1000000 in
theorem impl_sheetOk (A : Option Addr) (n c : Nat) (z : Nat → List Int) (B : Nat) (w : World) (h : RowII w B A n c z) :
    Calls Try.prog 13 #[.slice A n c] w fun e w' => e = .returned (.bool (sheetOk z n)) ∧ w = w' := by
  have hcap := h.cap
  unfold maxLen at hcap
  go_enter Try.func13, Try.ntmps13
  go_wp2_with fail
  go_loop [4, 7] (fun _ i => ∃ k : Nat, k ≤ n ∧ i = .int .i64 k ∧ Hid (rowsOk z k = true)) (fun _ i => n - (intOf i).toNat)
  case atStart => exact ⟨0, Nat.zero_le _, rfl, rfl⟩
  case round =>
    obtain ⟨k, hk, rfl, hall⟩ := hrel
    by_cases hlt : k < n
    · obtain ⟨b, off, rfl, _, hrows⟩ := h.2.2 (by omega)
      obtain ⟨Ak, ck, hc, hr⟩ := hrows k hlt
      obtain ⟨A0, c0, hc0, _⟩ := hrows 0 (by omega)
      rw [Nat.add_zero] at hc0
      have hrc := hr.cap
      unfold maxLen at hrc
      clear hrows
      have p0 : 0 < n := by omega
      rcases (by omega : (z k).length < (z 0).length ∨ (z 0).length < (z k).length ∨ ((z k).length ≤ (z 0).length ∧ (z 0).length ≤ (z k).length)) with hl | hl | ⟨hl1, hl2⟩
      · have H := Lib.hid (sheetOk_no hlt (show rowOk z k = false by unfold rowOk; rw [decide_eq_false (by omega)]; rfl))
        go_wp2
        go_ret
        exact ⟨ret_bool H.out.symm, rfl⟩
      · have H := Lib.hid (sheetOk_no hlt (show rowOk z k = false by unfold rowOk; rw [decide_eq_false (by omega)]; rfl))
        go_wp2
        go_ret
        exact ⟨ret_bool H.out.symm, rfl⟩
      · have e0 : (z k).length = (z 0).length := by omega
        have e : decide ((z k).length = (z 0).length) = true := decide_eq_true e0
        have HA := Lib.hid (show inB (z k).length 1 12 = inB (z 0).length 1 12 by rw [e0])
        rw [e0] at hc hr hrc
        clear e0 hl1 hl2
        rcases inB_or (z 0).length 1 12 with ⟨hA, a1, a2⟩ | hA
        · rcases Bool.eq_false_or_eq_true (allIn (z k) 0 100) with hB | hB
          · have H := Lib.hid (rowsOk_snoc hall.out (show rowOk z k = true by unfold rowOk; rw [e, HA.out, hA, hB]; rfl))
            clear e
            go_wp2_with (first | (go_at_call 35; refine (within_any _ _ _ _).mono ?_; rintro e w' ⟨rfl, rfl⟩) | (go_at_call 36; refine (all_any Ak (z 0).length ck (z k) _ _ B _ hr).mono ?_; rintro e w' ⟨rfl, rfl⟩))
            go_round
            case rel => exact ⟨k + 1, by omega, by go_num, H⟩
            case measure => simp [intOf]; omega
          · have H := Lib.hid (sheetOk_no hlt (show rowOk z k = false by unfold rowOk; rw [e, HA.out, hA, hB]; rfl))
            clear e
            go_wp2_with (first | (go_at_call 35; refine (within_any _ _ _ _).mono ?_; rintro e w' ⟨rfl, rfl⟩) | (go_at_call 36; refine (all_any Ak (z 0).length ck (z k) _ _ B _ hr).mono ?_; rintro e w' ⟨rfl, rfl⟩))
            go_ret
            exact ⟨ret_bool H.out.symm, rfl⟩
        · have H := Lib.hid (sheetOk_no hlt (show rowOk z k = false by unfold rowOk; rw [e, HA.out, hA]; rfl))
          clear e
          go_wp2_with (first | (go_at_call 35; refine (within_any _ _ _ _).mono ?_; rintro e w' ⟨rfl, rfl⟩) | (go_at_call 36; refine (all_any Ak (z 0).length ck (z k) _ _ B _ hr).mono ?_; rintro e w' ⟨rfl, rfl⟩))
          go_ret
          exact ⟨ret_bool H.out.symm, rfl⟩
    · obtain rfl : k = n := by omega
      have H := Lib.hid (show sheetOk z k = inB k 1 9 by unfold sheetOk; rw [hall.out]; rfl)
      go_wp2_with (first | (go_at_call 35; refine (within_any _ _ _ _).mono ?_; rintro e w' ⟨rfl, rfl⟩))
      go_ret
      exact ⟨ret_bool H.out.symm, rfl⟩
set_option maxHeartbeats 2000000 in
theorem spec_sheetOk (A : Option Addr) (n c : Nat) (z : Nat → List Int) (B : Nat) (w : World) (h : RowII w B A n c z) :
    Calls Try.prog 11 #[.slice A n c] w fun e w' => e = .returned (.bool (sheetOk z n)) ∧ ∃ q, w' = w.drewN q := by
  have hcap := h.cap
  unfold maxLen at hcap
  rcases inB_or n 1 9 with ⟨hN, n1, n9⟩ | hN
  · obtain ⟨b, off, rfl, _, hrows⟩ := h.2.2 (by omega)
    obtain ⟨A0, c0, hc0, hr0⟩ := hrows 0 (by omega)
    rw [Nat.add_zero] at hc0
    have HR := Lib.hid hrows
    clear hrows
    have p0 : 0 < n := by omega
    rcases inB_or (z 0).length 1 12 with ⟨hA, a1, a2⟩ | hA
    · go_enter Try.func11, Try.ntmps11
      go_wp2_with (first | (go_at_call 33; refine (l01In_any _ _ _ _).mono ?_; rintro e w' ⟨rfl, rfl⟩))
      go_loopw [3] (fun i wr => ∃ k : Nat, k ≤ n ∧ i = .int .i64 k ∧ Hid (rowsOk z k = true) ∧ ∃ q, wr = w.drewN q) (fun i _ => n - (intOf i).toNat)
      case atStart => exact ⟨0, Nat.zero_le _, rfl, rfl, 0, rfl⟩
      case round =>
        obtain ⟨k, hk, rfl, hall, q, rfl⟩ := hrel
        by_cases hlt : k < n
        · obtain ⟨Ak, ck, hc, hr⟩ := HR.out k hlt
          have hrc := hr.cap
          unfold maxLen at hrc
          have i0 : (0 : Int) ≤ (k : Int) := by omega
          have i1 : (k : Int) < (n : Int) := by omega
          have i2 : (0 : Int) < (n : Int) := by omega
          go_wp2_with fail
          go_loop [4] (fun i => ∃ j : Nat, j ≤ (z k).length ∧ i = .int .i64 j ∧ Hid (allIn ((z k).take j) 0 100 = true)) (fun i => (z k).length - (intOf i).toNat)
          case atStart => exact ⟨0, Nat.zero_le _, rfl, rfl⟩
          case round =>
            obtain ⟨j, hj, rfl, hin⟩ := hrel
            by_cases hjl : j < (z k).length
            · obtain ⟨b', off', rfl, _, hcj⟩ := hr.at_ hjl
              rcases inB_or (nth (z k) j) 0 100 with ⟨hX, x1, x2⟩ | hX
              · go_wp2_with (first | (go_at_call 33; refine (l01In_any _ _ _ _).mono ?_; rintro e w' ⟨rfl, rfl⟩))
                go_round
                case rel => exact ⟨j + 1, by omega, by go_num, allIn_snoc hjl hin.out hX⟩
                case measure => simp [intOf]; omega
              · have H := Lib.hid (sheetOk_no hlt (show rowOk z k = false by unfold rowOk; rw [allIn_no hjl hX]; simp))
                go_wp2_with (first | (go_at_call 33; refine (l01In_any _ _ _ _).mono ?_; rintro e w' ⟨rfl, rfl⟩))
                go_ret
                exact ⟨ret_bool H.out.symm, q, rfl⟩
            · have hB : allIn (z k) 0 100 = true := by have := hin.out; rwa [List.take_of_length_le (by omega)] at this
              rcases (by omega : (z k).length < (z 0).length ∨ (z 0).length < (z k).length ∨ ((z k).length ≤ (z 0).length ∧ (z 0).length ≤ (z k).length)) with hl | hl | ⟨hl1, hl2⟩
              · have H := Lib.hid (sheetOk_no hlt (show rowOk z k = false by unfold rowOk; rw [decide_eq_false (by omega)]; rfl))
                clear hB
                go_wp2_with fail
                go_quiet (fail)
                go_wp2
                go_ret
                exact ⟨ret_bool H.out.symm, _, World.drewN_drewN _ _ _⟩
              · have H := Lib.hid (sheetOk_no hlt (show rowOk z k = false by unfold rowOk; rw [decide_eq_false (by omega)]; rfl))
                clear hB
                go_wp2_with fail
                go_quiet (fail)
                go_wp2
                go_ret
                exact ⟨ret_bool H.out.symm, _, World.drewN_drewN _ _ _⟩
              · have H := Lib.hid (rowsOk_snoc hall.out (show rowOk z k = true by unfold rowOk; rw [decide_eq_true (by omega), inB_mk (by omega) (by omega), hB]; rfl))
                clear hB
                go_wp2_with fail
                go_quiet (fail)
                go_wp2
                go_roundw
                case rel => exact ⟨k + 1, by omega, by go_num, H, _, rfl⟩
                case measure => simp [intOf]; omega
        · obtain rfl : k = n := by omega
          have H := Lib.hid (show sheetOk z k = true by unfold sheetOk; rw [hall.out, hN]; rfl)
          go_wp2
          go_ret
          exact ⟨ret_bool H.out.symm, q, rfl⟩
    · have H := Lib.hid (sheetOk_no p0 (show rowOk z 0 = false by unfold rowOk; rw [hA]; simp))
      go_enter Try.func11, Try.ntmps11
      go_wp2_with (first | (go_at_call 33; refine (l01In_any _ _ _ _).mono ?_; rintro e w' ⟨rfl, rfl⟩))
      go_ret
      exact ⟨ret_bool H.out.symm, 0, rfl⟩
  · go_enter Try.func11, Try.ntmps11
    go_wp2_with (first | (go_at_call 33; refine (l01In_any _ _ _ _).mono ?_; rintro e w' ⟨rfl, rfl⟩))
    go_ret
    exact ⟨ret_bool (by simp [sheetOk, hN]), 0, rfl⟩
theorem below_draws (w : World) (q : Nat) : Below w.heap.size w (w.drewN q) := ⟨rfl, rfl, rfl, Nat.le_refl _, fun _ _ => rfl⟩
theorem spec_sheetOk_b (A : Option Addr) (n c : Nat) (z : Nat → List Int) (B : Nat) (w : World) (h : RowII w B A n c z) :
    Calls Try.prog 11 #[.slice A n c] w fun e w' => e = .returned (.bool (sheetOk z n)) ∧ Below w.heap.size w w' :=
  (spec_sheetOk A n c z B w h).mono fun _ _ ⟨he, q, hq⟩ => ⟨he, by rw [hq]; exact below_draws w q⟩
end Go.Proofs.Ytmpadppnhhamhaa
