/- Contracts of ReceivedBy. -/
import Derived.Test.YtkglgbdiakinlaaRound
namespace Go.Proofs.Ytkglgbdiakinlaa
open Go.ChangeShapes Go.WideShapes Go.ChangeAt Go.RowKit
set_option maxHeartbeats 4000000 in
theorem impl_received (n : Int) (A : Option Addr) (l c : Nat) (z : Nat → List Int) (K : Int) (R : List Int) (B : Nat) (w : World) (h : RowII w B A l c z) (hB : B ≤ w.heap.size) (hR : Hid (R = receivedBy n z l K)) :
    Calls Try.prog 43 #[.int .i64 n, .slice A l c, .int .i64 K] w fun e w' => ∃ A2 c2, e = .returned (.slice A2 R.length c2) ∧ OwnI w' w.heap.size (.slice A2 R.length c2) R ∧ Below w.heap.size w w' := by
  have hcap := h.cap
  unfold maxLen at hcap
  rcases Bool.eq_false_or_eq_true (roundsOk n z l) with hO | hO
  · have hP := rounds_of hO
    have l9 := hP.l9
    have n1 := hP.n1
    have n9 := hP.n9
    rcases inB_or K 0 (n - 1) with ⟨hI, k0, kn⟩ | hI
    · have HR := Lib.hid (show R = received z K l by rw [hR.out]; unfold receivedBy; rw [hO, hI]; rfl)
      have HL := Lib.hid (show R.length = l by rw [HR.out, received_len])
      go_enter Try.func43, Try.ntmps43
      go_wp2_with fail
      refine (impl_rounds n A l c z B _ h hB).mono ?_
      rintro e w1 ⟨rfl, hb1⟩
      rw [hO]
      have h2 : RowII w1 B A l c z := h.keep fun p hp => hb1.cell (by omega)
      have hz1 := hb1.size
      clear hO h
      go_wp2_with (go_at_call 51; refine (within_any _ _ _ _).mono ?_; rintro e w' ⟨rfl, rfl⟩)
      clear hI
      go_loopw [7, 9, 24] (fun v _ i wr => ∃ (r : Nat) (A2 : Option Addr) (c2 : Nat), r ≤ l ∧ i = .int .i64 r ∧ v = .slice A2 r c2 ∧ OwnI wr w1.heap.size (.slice A2 r c2) (received z K r) ∧ Below w1.heap.size w1 wr) (fun _ _ i _ => l - (intOf i).toNat)
      case atStart => exact ⟨0, _, _, by omega, rfl, rfl, own_empty w1, (Below.refl _ _).alloc (Nat.le_refl _) _⟩
      case round =>
        obtain ⟨r, A2, c2, hr, rfl, rfl, hown, hb⟩ := hrel
        have hbw := hb.size
        by_cases hlt : r < l
        · have h3 : RowII wr B A l c z := h2.keep fun p hp => hb.cell (by omega)
          obtain ⟨b, off, rfl, hbB, Aj, cj, hcj, hrj⟩ := h3.at_ hlt
          have r0 : (0 : Int) ≤ (r : Int) := by omega
          have r3 : (r : Int) < (l : Int) := by omega
          have HS := Lib.hid (received_step z K r)
          have hlen := Lib.hid hown.form.1
          clear h3
          go_wp2_with (first | (go_at_call 63; refine (index_any Aj (z r).length cj (z r) K B _ hrj).mono ?_; rintro e w' ⟨rfl, rfl⟩) | (at_builtin; refine app_shape rfl _ _ rfl w1.heap.size _ (received z K r) (idxOf (z r) K) wr.heap.size r (hlen.out.symm) rfl (hown.alloc _) rfl (heap_alloc_new wr _) (by rw [← hlen.out]; omega) (by simp; omega) ?_; intro A4 c4 w4 ho4 hb4))
          rw [← HS.out] at ho4
          have hb5 := (hb.alloc hb.size _).trans hb4
          clear hb4 hown
          go_wp2
          go_roundw
          case rel => exact ⟨r + 1, A4, c4, by omega, by go_num, rfl, ho4, hb5⟩
          case measure => simp [intOf]; omega
        · obtain rfl : r = l := by omega
          rw [← HR.out] at hown
          have hown2 : OwnI wr w.heap.size (.slice A2 r c2) R := hown.base hz1
          have hb2 := hb1.trans (hb.mono hz1)
          clear hown
          go_wp2
          go_ret
          rw [HL.out]
          exact ⟨A2, c2, rfl, hown2, hb2⟩
    · have HR := Lib.hid (show R = [] by rw [hR.out]; unfold receivedBy; rw [hI, Bool.and_false]; rfl)
      go_enter Try.func43, Try.ntmps43
      go_wp2_with fail
      refine (impl_rounds n A l c z B _ h hB).mono ?_
      rintro e w1 ⟨rfl, hb1⟩
      rw [hO]
      clear hO
      go_wp2_with (go_at_call 51; refine (within_any _ _ _ _).mono ?_; rintro e w' ⟨rfl, rfl⟩)
      go_ret
      rw [HR.out]
      exact ⟨none, 0, rfl, own_nil _ _, hb1⟩
  · have HR := Lib.hid (show R = [] by rw [hR.out]; unfold receivedBy; rw [hO]; rfl)
    go_enter Try.func43, Try.ntmps43
    go_wp2_with fail
    refine (impl_rounds n A l c z B _ h hB).mono ?_
    rintro e w1 ⟨rfl, hb1⟩
    rw [hO]
    clear hO
    go_wp2
    go_ret
    rw [HR.out]
    exact ⟨none, 0, rfl, own_nil _ _, hb1⟩
/-- what the reference has collected at member i of round r, whose sender is m -/
def recvAt (z : Nat → List Int) (K : Int) (r m i : Nat) : List Int := if m < i then received z K (r + 1) else received z K r
set_option maxHeartbeats 4000000 in
theorem spec_received (n : Int) (A : Option Addr) (l c : Nat) (z : Nat → List Int) (K : Int) (R : List Int) (B : Nat) (w : World) (h : RowII w B A l c z) (hB : B ≤ w.heap.size) (hR : Hid (R = receivedBy n z l K)) :
    Calls Try.prog 42 #[.int .i64 n, .slice A l c, .int .i64 K] w fun e w' => ∃ A2 c2, e = .returned (.slice A2 R.length c2) ∧ OwnI w' w.heap.size (.slice A2 R.length c2) R ∧ Below w.heap.size w w' := by
  have hcap := h.cap
  unfold maxLen at hcap
  rcases Bool.eq_false_or_eq_true (roundsOk n z l) with hO | hO
  · have hP := rounds_of hO
    have l9 := hP.l9
    have n1 := hP.n1
    have n9 := hP.n9
    obtain ⟨N, rfl⟩ : ∃ N : Nat, n = N := ⟨n.toNat, by omega⟩
    rcases inB_or K 0 ((N : Int) - 1) with ⟨hI, k0, kn⟩ | hI
    · have HR := Lib.hid (show R = received z K l by rw [hR.out]; unfold receivedBy; rw [hO, hI]; rfl)
      have HL := Lib.hid (show R.length = l by rw [HR.out, received_len])
      have HO := Lib.hid hO
      have HI := Lib.hid hI
      clear hO hI
      go_enter Try.func42, Try.ntmps42
      go_wp2_with fail
      go_loopw [7, 8, 9] (fun v i _ wr => ∃ (r : Nat) (A2 : Option Addr) (c2 : Nat), r ≤ l ∧ i = .int .i64 r ∧ v = .slice A2 r c2 ∧ OwnI wr w.heap.size (.slice A2 r c2) (received z K r) ∧ Below w.heap.size w wr) (fun _ i _ _ => l - (intOf i).toNat)
      case atStart => exact ⟨0, _, _, by omega, rfl, rfl, own_empty w, (Below.refl _ _).alloc (Nat.le_refl _) _⟩
      case round =>
        obtain ⟨r, A2, c2, hr, rfl, rfl, hown, hb⟩ := hrel
        have hbw := hb.size
        by_cases hlt : r < l
        · have h3 : RowII wr B A l c z := h.keep fun p hp => hb.cell (by omega)
          have r0 : (0 : Int) ≤ (r : Int) := by omega
          have r3 : (r : Int) < (l : Int) := by omega
          go_wp2_with fail
          refine (spec_rounds N A l c z B _ h3 (by omega)).mono ?_
          rintro e w1 ⟨rfl, hb1⟩
          rw [HO.out]
          have h4 : RowII w1 B A l c z := h3.keep fun p hp => hb1.cell (by omega)
          have hown1 := hown.keep hb1
          have hb2 := hb.trans (hb1.mono hbw)
          clear h3 hown hb1 hb
          have hI := HI.out
          go_wp2_with (go_at_call 50; refine (l01In_any _ _ _ _).mono ?_; rintro e w' ⟨rfl, rfl⟩)
          clear hI
          obtain ⟨M, hM, hMe, hMu, hMi⟩ := sender hP hlt k0 kn
          have hlen := hP.len r hlt
          have hlr : (z r).length = N := by omega
          rw [hlr] at hM hMu
          have HLr := Lib.hid hlr
          have HMe := Lib.hid hMe
          have HMu := Lib.hid hMu
          have HMi := Lib.hid hMi
          clear hlen hlr hMe hMu hMi
          have HR0 := Lib.hid (show recvAt z K r M 0 = received z K r from if_neg (by omega))
          go_loopw [7, 9] (fun v i wr => ∃ (i' : Nat) (A2 : Option Addr) (m c2 : Nat), i' ≤ N ∧ m ≤ r + 1 ∧ i = .int .i64 i' ∧ v = .slice A2 m c2 ∧ OwnI wr w.heap.size (.slice A2 m c2) (recvAt z K r M i') ∧ Below w.heap.size w wr) (fun _ i _ => N - (intOf i).toNat)
          case atStart => exact ⟨0, _, r, _, by omega, by omega, rfl, rfl, by rw [HR0.out]; exact hown1, hb2⟩
          case round =>
            clear hown1 hb2 h4
            obtain ⟨i, A2, m, c2, hi, hm, rfl, rfl, hown, hb⟩ := hrel
            have hbw := hb.size
            have hfm := Lib.hid hown.form.1
            by_cases hil : i < N
            · have h4 : RowII wr B A l c z := h.keep fun p hp => hb.cell (by omega)
              obtain ⟨b, off, rfl, hbB, Aj, cj, hcj, hrj⟩ := h4.at_ hlt
              rw [HLr.out] at hcj hrj
              obtain ⟨bj, oj, rfl, hbj, hx⟩ := hrj.at_ hil
              clear h4
              have i0 : (0 : Int) ≤ (i : Int) := by omega
              have i3 : (i : Int) < (N : Int) := by omega
              by_cases hiM : i = M
              · have d : (nth (z r) i == K) = true := by rw [hiM]; exact beq_iff_eq.2 HMe.out
                have HS := Lib.hid (show recvAt z K r M (i + 1) = recvAt z K r M i ++ [(i : Int)] by unfold recvAt; rw [if_pos (by omega), if_neg (by omega), received_step, HMi.out, hiM])
                have HQ := Lib.hid (show m = r by rw [hfm.out]; unfold recvAt; rw [if_neg (by omega), received_len])
                have hmr : m ≤ r := by have := HQ.out; omega
                clear hiM
                go_wp2_with (at_builtin; refine app_shape rfl _ _ rfl w.heap.size _ (recvAt z K r M i) (i : Int) wr.heap.size m (hfm.out.symm) rfl (hown.alloc _) rfl (heap_alloc_new wr _) (by rw [← hfm.out]; omega) (by simp; omega) ?_; intro A4 c4 w4 ho4 hb4)
                rw [← HS.out] at ho4
                have hb5 := (hb.alloc hb.size _).trans hb4
                clear hb4 hown
                go_wp2
                go_roundw
                case rel => exact ⟨i + 1, A4, m + 1, c4, by omega, by omega, by go_num, rfl, ho4, hb5⟩
                case measure => simp [intOf]; omega
              · have d : (nth (z r) i == K) = false := beq_eq_false_iff_ne.2 fun e => hiM (HMu.out i hil e)
                have HS := Lib.hid (show recvAt z K r M i = recvAt z K r M (i + 1) by unfold recvAt; by_cases q : M < i; rw [if_pos q, if_pos (by omega)]; rw [if_neg q, if_neg (by omega)])
                rw [HS.out] at hown
                clear hiM
                go_wp2
                go_roundw
                case rel => exact ⟨i + 1, A2, m, c2, by omega, by omega, by go_num, rfl, hown, hb⟩
                case measure => simp [intOf]; omega
            · have HS := Lib.hid (show recvAt z K r M i = received z K (r + 1) from if_pos (by omega))
              have HQ := Lib.hid (show m = r + 1 by rw [hfm.out, HS.out, received_len])
              have i3 : ¬ (i : Int) < (N : Int) := by omega
              rw [HS.out] at hown
              rw [HQ.out] at hown ⊢
              go_wp2
              go_roundw
              case rel => exact ⟨r + 1, A2, c2, by omega, by go_num, rfl, hown, hb⟩
              case measure => simp [intOf]; omega
        · obtain rfl : r = l := by omega
          rw [← HR.out] at hown
          have r3 : ¬ (r : Int) < (r : Int) := by omega
          go_wp2
          go_ret
          rw [HL.out]
          exact ⟨A2, c2, rfl, hown, hb⟩
    · have HR := Lib.hid (show R = [] by rw [hR.out]; unfold receivedBy; rw [hI, Bool.and_false]; rfl)
      have HO := Lib.hid hO
      clear hO
      go_enter Try.func42, Try.ntmps42
      go_wp2_with fail
      refine wp_loop_rounds 1 ?_
      rw [rounds_succ]
      by_cases hlt : 0 < l
      · have r3 : (0 : Int) < (l : Int) := by omega
        have h3 : RowII (w.alloc (.cells #[] 3)) B A l c z := h.keep fun p hp => ((Below.refl _ _).alloc (Nat.le_refl _) _).cell (by omega)
        go_wp2_with fail
        refine (spec_rounds N A l c z B _ h3 (by simp; omega)).mono ?_
        rintro e w1 ⟨rfl, hb1⟩
        rw [HO.out]
        have hown1 := (own_empty w).keep hb1
        have hb2 := ((Below.refl _ w).alloc (Nat.le_refl _) (.cells #[] 3)).trans (hb1.mono (by simp))
        clear hb1 h3
        go_wp2_with (go_at_call 50; refine (l01In_any _ _ _ _).mono ?_; rintro e w' ⟨rfl, rfl⟩)
        go_ret
        rw [HR.out]
        exact ⟨_, _, rfl, hown1, hb2⟩
      · have r3 : ¬ (0 : Int) < (l : Int) := by omega
        have r4 : decide (0 < l) = false := decide_eq_false hlt
        go_wp2
        go_ret
        rw [HR.out]
        exact ⟨_, _, rfl, own_empty w, (Below.refl _ _).alloc (Nat.le_refl _) _⟩
  · have HR := Lib.hid (show R = [] by rw [hR.out]; unfold receivedBy; rw [hO]; rfl)
    have HO := Lib.hid hO
    clear hO
    go_enter Try.func42, Try.ntmps42
    go_wp2_with fail
    refine wp_loop_rounds 1 ?_
    rw [rounds_succ]
    by_cases hlt : 0 < l
    · have r3 : (0 : Int) < (l : Int) := by omega
      have h3 : RowII (w.alloc (.cells #[] 3)) B A l c z := h.keep fun p hp => ((Below.refl _ _).alloc (Nat.le_refl _) _).cell (by omega)
      go_wp2_with fail
      refine (spec_rounds n A l c z B _ h3 (by simp; omega)).mono ?_
      rintro e w1 ⟨rfl, hb1⟩
      rw [HO.out]
      have hown1 := (own_empty w).keep hb1
      have hb2 := ((Below.refl _ w).alloc (Nat.le_refl _) (.cells #[] 3)).trans (hb1.mono (by simp))
      clear hb1 h3
      go_wp2
      go_ret
      rw [HR.out]
      exact ⟨_, _, rfl, hown1, hb2⟩
    · have r3 : ¬ (0 : Int) < (l : Int) := by omega
      have r4 : decide (0 < l) = false := decide_eq_false hlt
      go_wp2
      go_ret
      rw [HR.out]
      exact ⟨_, _, rfl, own_empty w, (Below.refl _ _).alloc (Nat.le_refl _) _⟩
end Go.Proofs.Ytkglgbdiakinlaa
