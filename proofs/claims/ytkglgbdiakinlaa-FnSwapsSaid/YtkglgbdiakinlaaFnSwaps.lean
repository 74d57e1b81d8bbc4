/-
  The law FnSwaps: for every input the Go function returns true, and each argument reads afterwards as it read before.
  Conditions: none beyond the row's own.
-/
import Derived.Test.YtkglgbdiakinlaaSwp
import Derived.ChangeOld
import Derived.Carry
namespace Go.Proofs.Ytkglgbdiakinlaa.fnSwaps
open Go.ChangeShapes Go.WideShapes Go.ChangeAt Go.RowKit Go.Joins
open Go.ChangeMaps (open_string shut_string)
set_option linter.unusedVariables false

theorem own : ownKnob Try.prog.godebug = none := by kernel_rfl
theorem laidOut : laidOutB Try.prog = true := by kernel_rfl

set_option maxRecDepth 100000 in
set_option maxHeartbeats 8000000 in
theorem walk (a0 : Option Addr) (l0 c0 : Nat) (z0 : List Int) (w : World) (w0 : RowI .u8 w w.heap.size a0 l0 c0 z0) :
    Calls Try.prog 14 #[.slice a0 l0 c0] w fun e w' => e = .returned (.bool true) ∧ Below w.heap.size w w' := by
  have hcap := w0.cap
  unfold maxLen at hcap
  rcases (by omega : 1048576 < (l0 : Int) ∨ l0 ≤ 1048576) with hbig | hbig
  · have d0 : decide (1048576 < (l0 : Int)) = true := decide_eq_true hbig
    go_enter Try.func14, Try.ntmps14
    go_wp2_with (go_at_call 46; refine (big_any a0 l0 c0 _ (by omega)).mono ?_; rintro e w' ⟨rfl, rfl⟩; rw [d0])
    go_ret
    exact ⟨rfl, Below.refl _ _⟩
  have d0 : decide (1048576 < (l0 : Int)) = false := decide_eq_false (by omega)
  go_enter Try.func14, Try.ntmps14
  go_wp2_with fail
  refine (big_any a0 l0 c0 _ (by omega)).mono ?_
  rintro e w' ⟨rfl, rfl⟩
  rw [d0]
  go_wp2_with fail
  refine (at_any a0 l0 c0 z0 0 _ w w0 hbig (by omega)).mono ?_
  rintro e w' ⟨⟨v, hv, rfl⟩, rfl⟩
  obtain ⟨q, hq⟩ : ∃ q, q = v % 9 := ⟨_, rfl⟩
  have hq9 : q < 9 := by omega
  have t1 : (v : Int).tmod 9 = (q : Int) := by rw [Int.tmod_eq_emod_of_nonneg (by omega)]; omega
  obtain ⟨N, hN⟩ : ∃ N, N = q + 2 := ⟨_, rfl⟩
  have t2 : (2 : Int) + (q : Int) = (N : Int) := by omega
  have t3 : IntKind.i64.wrap (2 + (q : Int)) = (N : Int) := by rw [IntWalk.i64_in _ (by omega)]; omega
  have HNq := Lib.hid hN
  have n2 : 2 ≤ N := by omega
  have n10 : N ≤ 10 := by omega
  clear hq hv hN
  obtain ⟨L, hL⟩ : ∃ L, N = L + 1 := ⟨N - 1, by omega⟩
  have hL1 : L < N := by omega
  have hL2 : N ≤ L + 1 := by omega
  clear hL
  have HS := Lib.hid (show swapN (N : Int) = L by rw [swapN_of n2 n10]; omega)
  have HG := Lib.hid (show goodB N (fun j => swapRow N j) = true by rw [HNq.out]; exact good_swap q hq9)
  go_wp2_with fail
  clear t1 t2 t3
  refine (impl_makeSwap (N : Int) w).mono ?_
  rintro e w1 ⟨Ap, cp, rfl, hp, hb1⟩
  rw [HS.out] at hp ⊢
  have hp1 := hp.rowII (fun i _ => swapRow_wf (by simp; omega) (by simp; omega))
  clear hp
  rw [show ((N : Int)).toNat = N from rfl] at hp1
  have s1 := hb1.size
  go_wp2_with fail
  refine (impl_meet (N : Int) w1).mono ?_
  rintro e w2 ⟨Am, cm, rfl, hm, hb2⟩
  have hm2 := hm.rowII (fun i hi => meet_wf i hi)
  clear hm
  rw [show ((N : Int)).toNat = N from rfl] at hm2
  have s2 := hb2.size
  have hp2 := (hp1.below hb2).more s2
  have hb2' := hb1.trans (hb2.mono s1)
  clear hp1 hb1 hb2
  rcases Nat.mod_two_eq_zero_or_one N with hE | hE
  · have HM := Lib.hid (show meetN (N : Int) = L by rw [meetN_of n2 n10 hE]; omega)
    have HGm := Lib.hid (show goodB N (fun j => meetRow N j) = true ∧ pairsOk (N : Nat) (fun j => meetRow N j) (N - 1) = true by rw [HNq.out]; exact good_meet q hq9 (by have := HNq.out; omega))
    rw [HM.out] at hm2 ⊢
    have m0 : (N : Int).tmod 2 = 0 := by rw [Int.tmod_eq_emod_of_nonneg (by omega)]; omega
    have HF := Lib.hid (show fairOk (N : Int) (fun j => swapRow N j) L = true by
      have := HG.out
      simp only [goodB, Bool.and_eq_true] at this
      rw [show L = N - 1 by omega]
      exact this.1.1)
    go_wp2_with fail
    refine (impl_fair (N : Int) Ap L cp _ _ w2 hp2 (Nat.le_refl _)).mono ?_
    rintro e w3 ⟨rfl, hb3⟩
    rw [HF.out]
    have s3 := hb3.size
    have hb3' := hb2'.trans (hb3.mono (by omega))
    have hp3 := hp2.below hb3
    have hm3 := hm2.below hb3
    clear hb3 hp2 hm2 hb2'
    have HFm := Lib.hid (show fairOk (N : Int) (fun j => meetRow N j) L = true by
      have := HGm.out.1
      simp only [goodB, Bool.and_eq_true] at this
      rw [show L = N - 1 by omega]
      exact this.1.1)
    have HPm := Lib.hid (show pairsOk (N : Int) (fun j => meetRow N j) L = true by rw [show L = N - 1 by omega]; exact HGm.out.2)
    go_wp2_with fail
    refine (impl_fair (N : Int) Am L cm _ _ w3 hm3 s3).mono ?_
    rintro e w4 ⟨rfl, hb4⟩
    rw [HFm.out]
    have s4 := hb4.size
    have hb4' := hb3'.trans (hb4.mono (by omega))
    have hp4 := hp3.below (hb4.mono s3)
    have hm4 := hm3.below (hb4.mono s3)
    clear hb4 hp3 hm3 hb3'
    go_wp2_with fail
    refine (impl_pairs (N : Int) Am L cm _ _ w4 hm4 (by omega)).mono ?_
    rintro e w5 ⟨rfl, hb5⟩
    rw [HPm.out]
    have s5 := hb5.size
    have hb5' := hb4'.trans (hb5.mono (by omega))
    have hp5 := hp4.below (hb5.mono (by omega))
    have hm5 := hm4.below (hb5.mono (by omega))
    clear hb5 hp4 hm4 hb4'
    go_wp2_with fail
    refine (at_any a0 l0 c0 z0 1 _ w5 (w0.keep fun p hp => hb5'.cell hp) hbig (by omega)).mono ?_
    rintro e w' ⟨⟨v2, hv2, rfl⟩, rfl⟩
    obtain ⟨k, hk⟩ : ∃ k, k = v2 % N := ⟨_, rfl⟩
    have hkN : k < N := by rw [hk]; exact Nat.mod_lt _ (by omega)
    have t1 : (v2 : Int).tmod (N : Int) = (k : Int) := by rw [hk, Int.tmod_eq_emod_of_nonneg (by omega)]; rfl
    have N0 : ((N : Int) == 0) = false := beq_eq_false_iff_ne.2 (by omega)
    have N1 : ¬ (N : Int) = 0 := by omega
    have N2 : ¬ N = 0 := by omega
    clear hk hv2
    go_wp2_with fail
    clear t1
    obtain ⟨wb, hwb⟩ : ∃ wb, wb = w5 := ⟨_, rfl⟩
    go_loopw [4, 7, 8, 9] (fun pv sv _ _ wr => ∃ (s : Nat) (A2 : Option Addr) (c2 : Nat) (z : Nat → List Int), s ≤ 2 ∧ sv = .int .i64 s ∧ pv = .slice A2 L c2 ∧ RowII wr w2.heap.size A2 L c2 z ∧ Hid (goodB N z = true) ∧ Below w2.heap.size w5 wr) (fun _ sv _ _ _ => 2 - (intOf sv).toNat)
    case atStart => exact ⟨0, Ap, cp, _, by omega, rfl, rfl, hp5, HG, Below.refl _ _⟩
    case round =>
      clear hp5
      obtain ⟨s, A2, c2, z, hs, rfl, rfl, hz, HZ, hb⟩ := hrel
      have hbs := hb.size
      have HZ1 := Lib.hid (show fairOk (N : Int) z L = true ∧ roundsOk (N : Int) z L = true by
        have := HZ.out
        simp only [goodB, Bool.and_eq_true] at this
        rw [show L = N - 1 by omega]
        exact this.1)
      by_cases hsl : s < 2
      · obtain ⟨R, hR⟩ : ∃ R, R = receivedBy (N : Int) z L (k : Int) := ⟨_, rfl⟩
        have HR := Lib.hid hR
        have HW := Lib.hid (show ∀ x ∈ R, (Lit.int .i64 x).wf = true by rw [hR]; exact receivedBy_wf _ _ _ _)
        have HK := Lib.hid (show R.length = L ∧ ∀ i, i < N → R.contains (i : Int) = !(i == k) by
          have := HZ.out
          simp only [goodB, Bool.and_eq_true] at this
          have := allTo_iff.1 this.2 k hkN
          simp only [recvOk, Bool.and_eq_true, decide_eq_true_eq] at this
          rw [hR, show L = N - 1 by omega]
          exact ⟨this.1, fun i hi => by simpa using allTo_iff.1 this.2 i hi⟩)
        clear hR
        go_wp2_with fail
        refine (impl_received (N : Int) A2 L c2 z (k : Int) R _ wr hz (by omega) HR).mono ?_
        rintro e w6 ⟨A6, c6, rfl, ho6, hb6⟩
        rw [HK.out.1] at ho6 ⊢
        have s6 := hb6.size
        have hb6' := hb.trans (hb6.mono (by omega))
        have hz6 := hz.below (hb6.mono (by omega))
        clear hb6 hb hz
        have hr6 : RowI .i64 w6 w6.heap.size A6 L c6 R := ho6.rowI HW.out
        have e1 : ((L : Int) == (N : Int) - 1) = true := by rw [beq_iff_eq]; omega
        have e2 : (L : Int) = (N : Int) - 1 := by omega
        have HC := Lib.hid (show R.contains (k : Int) = false by rw [HK.out.2 k hkN]; simp)
        go_wp2_with fail
        refine (hask_any A6 L c6 R (k : Int) _ w6 hr6 (by omega)).mono ?_
        rintro e w' ⟨rfl, rfl⟩
        rw [HC.out]
        go_wp2_with fail
        go_loopw [9] (fun iv wr2 => ∃ i : Nat, i ≤ N ∧ iv = .int .i64 i ∧ w6 = wr2) (fun iv _ => N - (intOf iv).toNat)
        case atStart => exact ⟨0, by omega, rfl, rfl⟩
        case round =>
          obtain ⟨i, hi, rfl, rfl⟩ := hrel
          by_cases hil : i < N
          · have HI := Lib.hid (HK.out.2 i hil)
            rcases (by omega : i = k ∨ ¬ i = k) with hik | hik
            · subst hik
              go_wp2_with (go_at_call 48; refine (hask_any A6 L c6 R (i : Int) _ w6 hr6 (by omega)).mono ?_; rintro e w' ⟨rfl, rfl⟩; rw [HC.out])
              go_roundw
              case rel => exact ⟨i + 1, by omega, by go_num, by first | trivial | rfl⟩
              case measure => simp [intOf]; omega
            · have HI2 := Lib.hid (show R.contains (i : Int) = true by rw [HI.out]; simp [hik])
              have f1 : ((i : Int) == (k : Int)) = false := beq_eq_false_iff_ne.2 (by omega)
              have f2 : ¬ (i : Int) = (k : Int) := by omega
              have f6 : ((i : Int) != (k : Int)) = true := by simp [bne, f1]
              have f3 : (i == k) = false := beq_eq_false_iff_ne.2 hik
              have f4 : decide (i = k) = false := decide_eq_false hik
              have f5 : decide ((i : Int) = (k : Int)) = false := decide_eq_false f2
              go_wp2_with (go_at_call 48; refine (hask_any A6 L c6 R (i : Int) _ w6 hr6 (by omega)).mono ?_; rintro e w' ⟨rfl, rfl⟩; rw [HI2.out])
              go_roundw
              case rel => exact ⟨i + 1, by omega, by go_num, by first | trivial | rfl⟩
              case measure => simp [intOf]; omega
          · obtain rfl : i = N := by omega
            go_wp2
            go_roundw
            case rel => exact ⟨s + 1, Am, cm, _, by omega, by go_num, rfl, hm5.below hb6', HGm.out.1, hb6'⟩
            case measure => simp [intOf]; omega
      · obtain rfl : s = 2 := by omega
        go_wp2_with fail
        refine (impl_rounds (N : Int) A2 L c2 z _ wr hz (by omega)).mono ?_
        rintro e w6 ⟨rfl, hb6⟩
        rw [HZ1.out.2]
        have s6 := hb6.size
        have hb6' := hb.trans (hb6.mono (by omega))
        have hz6 := hz.below (hb6.mono (by omega))
        clear hb6 hb hz
        have hcz := hz6.cap
        unfold maxLen at hcz
        obtain ⟨b, off, rfl, hbb, _⟩ := hz6.at_ (show 0 < L by omega)
        have e1 : ((L : Int) == (N : Int) - 1) = true := by rw [beq_iff_eq]; omega
        have e2 : (L : Int) = (N : Int) - 1 := by omega
        have x1 : (1 : Int) ≤ (L : Int) := by omega
        have HNF := Lib.hid (show fairOk (N : Int) (fun j => z (j + 1)) (L - 1) = false by
          have : (((L - 1 : Nat) : Int) == (N : Int) - 1) = false := beq_eq_false_iff_ne.2 (by omega)
          unfold fairOk
          rw [this]
          simp)
        go_wp2_with fail
        all_goals
          refine (impl_fair (N : Int) _ (L - 1) _ (fun j => z (j + 1)) w2.heap.size w6 (by first | exact rowII_tail hz6 (by omega) | exact rowII_none (by omega) (by omega)) (by omega)).mono ?_
          rintro e w7 ⟨rfl, hb7⟩
          rw [HNF.out]
          have s7 := hb7.size
          have hb7' := hb6'.trans (hb7.mono (by omega))
          clear hb7
          go_wp2_with fail
          refine (impl_pairs 2 _ 1 1 (fun _ => [1, 0]) _ _ (rows_one w7) (Nat.le_refl _)).mono ?_
          rintro e w8 ⟨rfl, hb8⟩
          rw [pairs_two]
          have hb9 := ((hb7'.alloc (by omega) (.cells #[.int .i64 1, .int .i64 0] 3)).alloc (by simp; omega) (.cells #[.slice (some ⟨w7.heap.size, 0, none⟩) 2 2] 27)).trans (hb8.mono (by simp; omega))
          have hbf := hb5'.trans (hb9.mono (by omega))
          clear hb8 hb9
          go_wp2
          go_ret
          exact ⟨rfl, hbf⟩
  · have HM := Lib.hid (show meetN (N : Int) = 0 from meetN_odd (by omega))
    rw [HM.out] at hm2 ⊢
    have m0 : (N : Int).tmod 2 = 1 := by rw [Int.tmod_eq_emod_of_nonneg (by omega)]; omega
    have m1 : ((1 : Int) == 0) = false := by decide
    have HF := Lib.hid (show fairOk (N : Int) (fun j => swapRow N j) L = true by
      have := HG.out
      simp only [goodB, Bool.and_eq_true] at this
      rw [show L = N - 1 by omega]
      exact this.1.1)
    go_wp2_with fail
    refine (impl_fair (N : Int) Ap L cp _ _ w2 hp2 (Nat.le_refl _)).mono ?_
    rintro e w3 ⟨rfl, hb3⟩
    rw [HF.out]
    have s3 := hb3.size
    have hb3' := hb2'.trans (hb3.mono (by omega))
    have hp3 := hp2.below hb3
    have hm3 := hm2.below hb3
    clear hb3 hp2 hm2 hb2'
    go_wp2_with fail
    refine (at_any a0 l0 c0 z0 1 _ w3 (w0.keep fun p hp => hb3'.cell hp) hbig (by omega)).mono ?_
    rintro e w' ⟨⟨v2, hv2, rfl⟩, rfl⟩
    obtain ⟨k, hk⟩ : ∃ k, k = v2 % N := ⟨_, rfl⟩
    have hkN : k < N := by rw [hk]; exact Nat.mod_lt _ (by omega)
    have t1 : (v2 : Int).tmod (N : Int) = (k : Int) := by rw [hk, Int.tmod_eq_emod_of_nonneg (by omega)]; rfl
    have N0 : ((N : Int) == 0) = false := beq_eq_false_iff_ne.2 (by omega)
    have N1 : ¬ (N : Int) = 0 := by omega
    have N2 : ¬ N = 0 := by omega
    clear hk hv2
    go_wp2_with fail
    clear t1
    obtain ⟨wb, hwb⟩ : ∃ wb, wb = w3 := ⟨_, rfl⟩
    go_loopw [4, 7, 8, 9] (fun pv sv _ _ wr => ∃ (s : Nat) (A2 : Option Addr) (c2 : Nat) (z : Nat → List Int), s ≤ 2 ∧ sv = .int .i64 s ∧ pv = .slice A2 L c2 ∧ RowII wr w2.heap.size A2 L c2 z ∧ Hid (goodB N z = true) ∧ Below w2.heap.size w3 wr) (fun _ sv _ _ _ => 2 - (intOf sv).toNat)
    case atStart => exact ⟨0, Ap, cp, _, by omega, rfl, rfl, hp3, HG, Below.refl _ _⟩
    case round =>
      clear hp3
      obtain ⟨s, A2, c2, z, hs, rfl, rfl, hz, HZ, hb⟩ := hrel
      have hbs := hb.size
      have HZ1 := Lib.hid (show fairOk (N : Int) z L = true ∧ roundsOk (N : Int) z L = true by
        have := HZ.out
        simp only [goodB, Bool.and_eq_true] at this
        rw [show L = N - 1 by omega]
        exact this.1)
      by_cases hsl : s < 2
      · obtain ⟨R, hR⟩ : ∃ R, R = receivedBy (N : Int) z L (k : Int) := ⟨_, rfl⟩
        have HR := Lib.hid hR
        have HW := Lib.hid (show ∀ x ∈ R, (Lit.int .i64 x).wf = true by rw [hR]; exact receivedBy_wf _ _ _ _)
        have HK := Lib.hid (show R.length = L ∧ ∀ i, i < N → R.contains (i : Int) = !(i == k) by
          have := HZ.out
          simp only [goodB, Bool.and_eq_true] at this
          have := allTo_iff.1 this.2 k hkN
          simp only [recvOk, Bool.and_eq_true, decide_eq_true_eq] at this
          rw [hR, show L = N - 1 by omega]
          exact ⟨this.1, fun i hi => by simpa using allTo_iff.1 this.2 i hi⟩)
        clear hR
        go_wp2_with fail
        refine (impl_received (N : Int) A2 L c2 z (k : Int) R _ wr hz (by omega) HR).mono ?_
        rintro e w6 ⟨A6, c6, rfl, ho6, hb6⟩
        rw [HK.out.1] at ho6 ⊢
        have s6 := hb6.size
        have hb6' := hb.trans (hb6.mono (by omega))
        have hz6 := hz.below (hb6.mono (by omega))
        clear hb6 hb hz
        have hr6 : RowI .i64 w6 w6.heap.size A6 L c6 R := ho6.rowI HW.out
        have e1 : ((L : Int) == (N : Int) - 1) = true := by rw [beq_iff_eq]; omega
        have e2 : (L : Int) = (N : Int) - 1 := by omega
        have HC := Lib.hid (show R.contains (k : Int) = false by rw [HK.out.2 k hkN]; simp)
        go_wp2_with fail
        refine (hask_any A6 L c6 R (k : Int) _ w6 hr6 (by omega)).mono ?_
        rintro e w' ⟨rfl, rfl⟩
        rw [HC.out]
        go_wp2_with fail
        go_loopw [9] (fun iv wr2 => ∃ i : Nat, i ≤ N ∧ iv = .int .i64 i ∧ w6 = wr2) (fun iv _ => N - (intOf iv).toNat)
        case atStart => exact ⟨0, by omega, rfl, rfl⟩
        case round =>
          obtain ⟨i, hi, rfl, rfl⟩ := hrel
          by_cases hil : i < N
          · have HI := Lib.hid (HK.out.2 i hil)
            rcases (by omega : i = k ∨ ¬ i = k) with hik | hik
            · subst hik
              go_wp2_with (go_at_call 48; refine (hask_any A6 L c6 R (i : Int) _ w6 hr6 (by omega)).mono ?_; rintro e w' ⟨rfl, rfl⟩; rw [HC.out])
              go_roundw
              case rel => exact ⟨i + 1, by omega, by go_num, by first | trivial | rfl⟩
              case measure => simp [intOf]; omega
            · have HI2 := Lib.hid (show R.contains (i : Int) = true by rw [HI.out]; simp [hik])
              have f1 : ((i : Int) == (k : Int)) = false := beq_eq_false_iff_ne.2 (by omega)
              have f2 : ¬ (i : Int) = (k : Int) := by omega
              have f6 : ((i : Int) != (k : Int)) = true := by simp [bne, f1]
              have f3 : (i == k) = false := beq_eq_false_iff_ne.2 hik
              have f4 : decide (i = k) = false := decide_eq_false hik
              have f5 : decide ((i : Int) = (k : Int)) = false := decide_eq_false f2
              go_wp2_with (go_at_call 48; refine (hask_any A6 L c6 R (i : Int) _ w6 hr6 (by omega)).mono ?_; rintro e w' ⟨rfl, rfl⟩; rw [HI2.out])
              go_roundw
              case rel => exact ⟨i + 1, by omega, by go_num, by first | trivial | rfl⟩
              case measure => simp [intOf]; omega
          · obtain rfl : i = N := by omega
            go_wp2
            go_roundw
            case rel => exact ⟨s + 1, A2, c2, z, by omega, by go_num, rfl, hz6, HZ, hb6'⟩
            case measure => simp [intOf]; omega
      · obtain rfl : s = 2 := by omega
        go_wp2_with fail
        refine (impl_rounds (N : Int) A2 L c2 z _ wr hz (by omega)).mono ?_
        rintro e w6 ⟨rfl, hb6⟩
        rw [HZ1.out.2]
        have s6 := hb6.size
        have hb6' := hb.trans (hb6.mono (by omega))
        have hz6 := hz.below (hb6.mono (by omega))
        clear hb6 hb hz
        have hcz := hz6.cap
        unfold maxLen at hcz
        obtain ⟨b, off, rfl, hbb, _⟩ := hz6.at_ (show 0 < L by omega)
        have e1 : ((L : Int) == (N : Int) - 1) = true := by rw [beq_iff_eq]; omega
        have e2 : (L : Int) = (N : Int) - 1 := by omega
        have x1 : (1 : Int) ≤ (L : Int) := by omega
        have HNF := Lib.hid (show fairOk (N : Int) (fun j => z (j + 1)) (L - 1) = false by
          have : (((L - 1 : Nat) : Int) == (N : Int) - 1) = false := beq_eq_false_iff_ne.2 (by omega)
          unfold fairOk
          rw [this]
          simp)
        go_wp2_with fail
        all_goals
          refine (impl_fair (N : Int) _ (L - 1) _ (fun j => z (j + 1)) w2.heap.size w6 (by first | exact rowII_tail hz6 (by omega) | exact rowII_none (by omega) (by omega)) (by omega)).mono ?_
          rintro e w7 ⟨rfl, hb7⟩
          rw [HNF.out]
          have s7 := hb7.size
          have hb7' := hb6'.trans (hb7.mono (by omega))
          clear hb7
          go_wp2_with fail
          refine (impl_pairs 2 _ 1 1 (fun _ => [1, 0]) _ _ (rows_one w7) (Nat.le_refl _)).mono ?_
          rintro e w8 ⟨rfl, hb8⟩
          rw [pairs_two]
          have hb9 := ((hb7'.alloc (by omega) (.cells #[.int .i64 1, .int .i64 0] 3)).alloc (by simp; omega) (.cells #[.slice (some ⟨w7.heap.size, 0, none⟩) 2 2] 27)).trans (hb8.mono (by simp; omega))
          have hbf := hb3'.trans (hb9.mono (by omega))
          clear hb8 hb9
          go_wp2
          go_ret
          exact ⟨rfl, hbf⟩

set_option maxRecDepth 100000 in
theorem lifted (os : Os) (started : os.Started) (H : Type) (enc : TypeId × Value → H) :
    ReturnsInHanded {} Try.checked os 14 .any (Rows.fnSwapsSpec.pre6 enc Try.prog Try.f14 Rows.fnSwapsRow.domain false) (Rows.fnSwapsSpec.post enc Try.prog Try.f14 false true false false) := by
  refine returnsInHanded_of_change (C := Try.checked) own started (by kernel_rfl) Try.func14
    (ChangeSpec.witness6 (enc := enc) (C := Try.checked) false ⟨#[], #[.slice none 0 0], []⟩ 8 (by kernel_rfl) (by kernel_rfl) (by kernel_rfl) (by kernel_rfl)) ?_
  intro W base args ds gs before hval0 hW hcnd _
  have hval : ∀ (j : Nat) t v, Try.f14.params[j]? = some t → args[j]? = some v → Value.okWide Try.prog W .any base t v := hval0
  have hW' := hW
  obtain ⟨p, q, hA0, hV, rfl, hfz, hnd⟩ := hW
  have hA : DataW.TrodAll enc Try.prog W 0 (fun _ => true) true Try.f14.params.toList args.toList ds p := hA0
  rw [Try.params14] at hA hval
  obtain ⟨v0, vs0, d0, ds0, p0, q0, hargs, rfl, rfl, h0, r0⟩ := trodAll_cons hA
  obtain ⟨rfl, rfl, rfl⟩ := trodAll_nil r0
  obtain rfl : args = #[v0] := by cases args; simp_all
  obtain ⟨rfl, rfl⟩ := trodVars_none hV
  have k0 := h0
  have lt0 : ∀ x ∈ p0, x.block < W.heap.size := by obtain ⟨m, hm⟩ := k0; exact DataW.trod_lt m _ _ _ hm
  obtain ⟨a0, l0, c0, rfl⟩ := okWide_slice Try.underlying41 (hval 0 41 v0 rfl rfl)
  obtain ⟨z0, w0⟩ := open_rowI Try.underlying41 Try.underlying5 (by kernel_rfl) (h0)
  clear hA0 hval0
  refine (walk a0 l0 c0 z0 W w0).mono fun e W' ⟨he, bel⟩ => ?_
  subst he
  exact ⟨_, rfl, _, _, _, [], _, [], hW', trodAll_mk1 (shut_bool Try.underlying4 _), (trodAll_cons_mk (Below.trod laidOut (by kernel_rfl) (of_decide_eq_true (by kernel_rfl)) k0 bel lt0) trodAll_mk0), rfl, bel.frame _, fun h => by cases h⟩

theorem over : Rows.fnSwapsRow.holds Try.pinned (OpenSpec.ofChange Rows.fnSwapsSpec) :=
  OpenClaim.holds_of_wide 14 Try.f14 rfl rfl rfl rfl rfl rfl rfl ⟨rfl, rfl, rfl, rfl, rfl⟩ rfl rfl rfl rfl rfl (by kernel_rfl) Try.func14 (by kernel_rfl)
    (of_decide_eq_true (by kernel_rfl)) (by unfold Func.isWrapper; first | (rw [if_pos (by decide +kernel)]; kernel_rfl) | (rw [if_neg (by decide +kernel)]; exact ⟨rfl, rfl⟩))
    (fun os started H enc _ => lifted os started H enc)

/-- The statement. -/
theorem proved : Rows.FnSwapsSaid := over
#print axioms proved
end Go.Proofs.Ytkglgbdiakinlaa.fnSwaps
