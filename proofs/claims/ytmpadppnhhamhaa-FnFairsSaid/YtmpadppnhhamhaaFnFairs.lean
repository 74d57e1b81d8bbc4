/-
  The law FnFairs: for every input the Go function returns true, and each argument reads afterwards as it read before.
  Conditions: none beyond the row's own.
-/
import Derived.Test.YtmpadppnhhamhaaPureFair
import Derived.Test.YtmpadppnhhamhaaSheetD
import Derived.Test.YtmpadppnhhamhaaWinner
import Derived.Test.YtmpadppnhhamhaaCode
import Derived.Test.YtmpadppnhhamhaaRankI
import Derived.Test.YtmpadppnhhamhaaBitsOr
import Derived.Test.YtmpadppnhhamhaaBtoi
import Derived.ChangeOld
import Derived.Carry
namespace Go.Proofs.Ytmpadppnhhamhaa.fnFairs
open Go.ChangeShapes Go.WideShapes Go.ChangeAt Go.RowKit Go.Joins
open Go.ChangeMaps (open_string shut_string)
set_option linter.unusedVariables false

theorem own : ownKnob Try.prog.godebug = none := by kernel_rfl
theorem laidOut : laidOutB Try.prog = true := by kernel_rfl

set_option maxRecDepth 100000 in
set_option maxHeartbeats 16000000 in
theorem walk (a0 : Option Addr) (l0 c0 : Nat) (z0 : List Int) (w : World) (w0 : RowI .u8 w w.heap.size a0 l0 c0 z0) :
    Calls Try.prog 9 #[.slice a0 l0 c0] w fun e w' => e = .returned (.bool true) ∧ Below w.heap.size w w' := by
  have hcap := w0.cap
  unfold maxLen at hcap
  rcases (by omega : 1048576 < (l0 : Int) ∨ l0 ≤ 1048576) with hbig | hbig
  · have d0 : decide (1048576 < (l0 : Int)) = true := decide_eq_true hbig
    go_enter Try.func9, Try.ntmps9
    go_wp2_with (go_at_call 29; refine (big_any a0 l0 c0 _ (by omega)).mono ?_; rintro e w' ⟨rfl, rfl⟩; rw [d0])
    go_ret
    exact ⟨rfl, Below.refl _ _⟩
  have d0 : decide (1048576 < (l0 : Int)) = false := decide_eq_false (by omega)
  go_enter Try.func9, Try.ntmps9
  go_wp2_with fail
  refine (big_any a0 l0 c0 _ (by omega)).mono ?_
  rintro e w' ⟨rfl, rfl⟩
  rw [d0]
  go_wp2_with fail
  refine (drawSheet_any a0 l0 c0 z0 w w0 hbig).mono ?_
  rintro e w1 ⟨n, m, A, c, z, n1, n5, m1, m5, rfl, HZ0, ho, hb1⟩
  have HZ := Lib.hid HZ0
  clear HZ0 d0 hcap
  have HO := Lib.hid (sheetOk_mk n1 (by omega) m1 (by omega) (fun j hj => (HZ.out j hj).1) (fun j hj x hx => by have := (HZ.out j hj).2 x hx; omega))
  have hp : RowII w1 w1.heap.size A n c z := ho.rowII (fun i hi x hx => by have := (HZ.out i hi).2 x hx; exact WalkArith.wf_i64 (by omega))
  have s1 := hb1.size
  clear ho
  obtain ⟨t, ht⟩ : ∃ t, t = totalsOf z n := ⟨_, rfl⟩
  obtain ⟨r, hr⟩ : ∃ r, r = trimmedOf z n := ⟨_, rfl⟩
  obtain ⟨o, hoo⟩ : ∃ o, o = rankOf z n := ⟨_, rfl⟩
  obtain ⟨W, hW⟩ : ∃ W, W = winner z n := ⟨_, rfl⟩
  have HF := Lib.hid (show Fair z n m t r o W by rw [ht, hr, hoo, hW]; exact fair_of HO.out (HZ.out 0 (by omega)).1)
  have Ht := Lib.hid ht
  have Hr := Lib.hid hr
  have Ho := Lib.hid hoo
  have HW := Lib.hid hW
  clear ht hr hoo hW
  go_wp2_with fail
  refine (impl_totals A n c z t _ w1 hp (Nat.le_refl _) Ht).mono ?_
  rintro e w2 ⟨At, ct, rfl, ot, hb2⟩
  rw [HF.out.tl] at ot ⊢
  have s2 := hb2.size
  have hb2' := hb1.trans (hb2.mono s1)
  have hp2 := hp.below hb2
  clear hb1 hb2 hp
  go_wp2_with fail
  refine (impl_trimmed A n c z r _ w2 hp2 (by omega) Hr).mono ?_
  rintro e w3 ⟨Ar, cr, rfl, or, hb3⟩
  rw [HF.out.rl] at or ⊢
  have s3 := hb3.size
  have hb3' := hb2'.trans (hb3.mono (by omega))
  have hp3 := hp2.below (hb3.mono (by omega))
  have ot3 := ot.keep hb3
  clear hb2' hb3 hp2 ot
  go_wp2_with fail
  refine (impl_ranking A n c z o _ w3 hp3 (by omega) Ho).mono ?_
  rintro e w4 ⟨Ao, co, rfl, oo, hb4⟩
  rw [HF.out.ol] at oo ⊢
  have s4 := hb4.size
  have hb4' := hb3'.trans (hb4.mono (by omega))
  have hp4 := hp3.below (hb4.mono (by omega))
  have ot4 := ot3.keep hb4
  have or4 := or.keep hb4
  clear hb3' hb4 hp3 ot3 or
  go_wp2_with fail
  refine (impl_winner A n c z _ w4 hp4 (by omega)).mono ?_
  rintro e w5 ⟨rfl, hb5⟩
  rw [← HW.out]
  have s5 := hb5.size
  have hb5' := hb4'.trans (hb5.mono (by omega))
  have hp5 := (hp4.below (hb5.mono (by omega))).more (show w1.heap.size ≤ w5.heap.size by omega)
  have rt : RowI .i64 w5 w5.heap.size At m ct t := (ot4.keep hb5).rowI (by rw [Ht.out]; exact totalsOf_wf z n)
  have rr : RowI .i64 w5 w5.heap.size Ar m cr r := (or4.keep hb5).rowI (by rw [Hr.out]; exact trimmedOf_wf z n)
  have ro : RowI .i64 w5 w5.heap.size Ao m co o := (oo.keep hb5).rowI (by rw [Ho.out]; exact rankOf_wf z n)
  clear hb4' hb5 hp4 ot4 or4 oo
  obtain ⟨bs, fs, rfl, hbs, hrows⟩ := hp5.2.2 (by omega)
  obtain ⟨A0, c1, hc0, _⟩ := hrows 0 (by omega)
  have HR := Lib.hid hrows
  clear hrows
  rw [Nat.add_zero, (HZ.out 0 (by omega)).1] at hc0
  obtain ⟨bt, ft, rfl, hbt, hct⟩ := rt.2.2.2.2 (by omega)
  obtain ⟨br, fr, rfl, hbr, hcr⟩ := rr.2.2.2.2 (by omega)
  obtain ⟨bo, fo, rfl, hbo, hco⟩ := ro.2.2.2.2 (by omega)
  have HCt := Lib.hid hct
  have HCr := Lib.hid hcr
  have HCo := Lib.hid hco
  clear hct hcr hco rt rr ro
  go_wp2_with fail
  go_loopw [9, 10, 11, 12, 13] (fun sv kv _ _ _ wr => ∃ k : Nat, k ≤ m ∧ kv = .int .i64 k ∧ sv = .int .i64 ((seenTo o k : Nat) : Int) ∧ Below w5.heap.size w5 wr) (fun _ kv _ _ _ _ => m - (intOf kv).toNat)
  case atStart => exact ⟨0, by omega, rfl, rfl, Below.refl _ _⟩
  case round =>
    obtain ⟨k, hk, rfl, rfl, hb⟩ := hrel
    have sb := hb.size
    by_cases hkm : k < m
    · obtain ⟨wo, rfl⟩ : ∃ wo : World, wo = wr := ⟨_, rfl⟩
      go_wp2_with fail
      go_loopw [11, 12] (fun sumv jv wq => ∃ j : Nat, j ≤ n ∧ jv = .int .i64 j ∧ sumv = .int .i64 (colSum z j k) ∧ wq = wo) (fun _ jv _ => n - (intOf jv).toNat)
      case atStart => exact ⟨0, by omega, rfl, rfl, rfl⟩
      case round =>
        obtain ⟨j, hj, rfl, rfl, rfl⟩ := hrel
        have k0 : (0 : Int) ≤ (k : Int) := by omega
        have km : (k : Int) < (m : Int) := by omega
        by_cases hjn : j < n
        · obtain ⟨Aj, cj, hcj, hrj⟩ := HR.out j hjn
          rw [(HZ.out j hjn).1] at hcj hrj
          obtain ⟨bj, fj, rfl, hbj, hx⟩ := hrj.at_ hkm
          have y1 := (hb.cell (p := ⟨bs, fs + j, none⟩) (by show bs < _; omega)).trans hcj
          have y2 := (hb.cell (p := ⟨bj, fj + k, none⟩) (by show bj < _; omega)).trans hx
          have q := HF.out.cs j hj k hkm
          have q2 : 0 ≤ nth (z j) k ∧ nth (z j) k ≤ 50 := (HZ.out j hjn).2 _ (nth_mem (by rw [(HZ.out j hjn).1]; exact hkm))
          have j0 : (0 : Int) ≤ (j : Int) := by omega
          have j1 : (j : Int) < (n : Int) := by omega
          clear hcj hrj hx
          go_wp2
          go_roundw
          case rel => exact ⟨j + 1, by omega, by go_num, rfl, by first | trivial | rfl⟩
          case measure => simp [intOf]; omega
        · obtain rfl : n = j := by omega
          obtain ⟨p, hpo⟩ : ∃ p : Nat, nth o k = (p : Int) := ⟨(nth o k).toNat, by have := HF.out.ob k hkm; omega⟩
          have pm : p < m := by have := HF.out.ob k hkm; omega
          have x1 := (hb.cell (p := ⟨bo, fo + k, none⟩) (by show bo < _; omega)).trans (HCo.out k hkm)
          have x2 := (hb.cell (p := ⟨bt, ft + k, none⟩) (by show bt < _; omega)).trans (HCt.out k hkm)
          have x3 := (hb.cell (p := ⟨br, fr + k, none⟩) (by show br < _; omega)).trans (HCr.out k hkm)
          have x4 := (hb.cell (p := ⟨br, fr + p, none⟩) (by show br < _; omega)).trans (HCr.out p pm)
          rw [hpo] at x1
          rw [HF.out.tk k hkm] at x2
          have h3 := Lib.hid (HF.out.r3)
          have h4 : nth r k ≤ colSum z n k := by have := HF.out.rt k hkm; rwa [HF.out.tk k hkm] at this
          have HS := Lib.hid (show seenTo o (k + 1) = seenTo o k ||| 2 ^ p by simp only [seenTo]; rw [hpo]; rfl)
          have HB := Lib.hid (HF.out.sl k hk)
          have HE := Lib.hid (show n < 3 → nth r k = colSum z n k from fun h => by rw [HF.out.r3 h k hkm, HF.out.tk k hkm])
          have HQ := Lib.hid (show 0 < k → ∃ q : Nat, q < m ∧ nth o (k - 1) = (q : Int) ∧ nth r p ≤ nth r q from fun h => by
            have := HF.out.ob (k - 1) (by omega)
            refine ⟨(nth o (k - 1)).toNat, by omega, by omega, ?_⟩
            have := HF.out.srt k h hkm
            rwa [hpo] at this)
          have HPo := Lib.hid hpo
          clear hpo
          obtain ⟨rk, hrk⟩ : ∃ rk, rk = nth r k := ⟨_, rfl⟩
          rw [← hrk] at x3 h4 HE
          obtain ⟨rp, hrp⟩ : ∃ rp, rp = nth r p := ⟨_, rfl⟩
          rw [← hrp] at x4 HQ
          obtain ⟨T, hT⟩ : ∃ T, T = colSum z n k := ⟨_, rfl⟩
          rw [← hT] at x2 h4 HE ⊢
          clear hrk hrp hT
          have p0 : (0 : Int) ≤ (p : Int) := by omega
          have p1 : (p : Int) < (m : Int) := by omega
          have e1 : decide ((p : Int) < 0) = false := decide_eq_false (by omega)
          have e2 : decide ((m : Int) ≤ (p : Int)) = false := decide_eq_false (by omega)
          have e2n : decide (m ≤ p) = false := decide_eq_false (by omega)
          have e3 : decide (T < rk) = false := decide_eq_false (by omega)
          go_upto_region 20 with fail
          go_cut [138] (fun cv wx => cv = .bool false ∧ ∃ nq, wx = wr.drewN nq)
          case first =>
            rcases (by omega : n < 3 ∨ ¬ n < 3) with g3 | g3
            · have HE2 := Lib.hid (HE.out g3)
              have e4 : decide ((n : Int) < 3) = true := decide_eq_true (by omega)
              rw [HE2.out] at x3
              have e5 : decide (T < T) = false := decide_eq_false (by omega)
              clear h4 e3
              rcases (by omega : ¬ 0 < k ∨ 0 < k) with h0 | h0
              · have e6 : decide ((0 : Int) < (k : Int)) = false := decide_eq_false (by omega)
                refine wp_region_quiet_lit (by kernel_rfl) (by kernel_rfl) ?_
                dsimp only [List.append]
                repeat (go_big_quiet_step (fail))
                refine wpQuiet_nil ?_
                intro _ hw'
                obtain ⟨nq, hw''⟩ := hw'
                subst hw''
                go_wp2_with fail
                go_meet
                exact ⟨rfl, nq, rfl⟩
              · obtain ⟨q, hq, hqo, hle⟩ := HQ.out h0
                have x5 := (hb.cell (p := ⟨bo, fo + (k - 1), none⟩) (by show bo < _; omega)).trans (HCo.out (k - 1) (by omega))
                have x6 := (hb.cell (p := ⟨br, fr + q, none⟩) (by show br < _; omega)).trans (HCr.out q hq)
                rw [hqo] at x5
                obtain ⟨rq, hrq⟩ : ∃ rq, rq = nth r q := ⟨_, rfl⟩
                rw [← hrq] at x6 hle
                clear hqo hrq
                have e6 : decide ((0 : Int) < (k : Int)) = true := decide_eq_true (by omega)
                have e6n : decide (0 < k) = true := decide_eq_true (by omega)
                have e7 : decide (rq < rp) = false := decide_eq_false (by omega)
                have q0 : (0 : Int) ≤ (q : Int) := by omega
                have q1 : (q : Int) < (m : Int) := by omega
                have k2 : (0 : Int) ≤ (k : Int) - 1 := by omega
                have k3 : (k : Int) - 1 < (m : Int) := by omega
                have k4 : IntKind.i64.wrap ((k : Int) - 1) = (k : Int) - 1 := IntWalk.i64_in _ (by omega)
                have k5 : ((k : Int) - 1).toNat = k - 1 := by omega
                refine wp_region_quiet_lit (by kernel_rfl) (by kernel_rfl) ?_
                dsimp only [List.append]
                repeat (go_big_quiet_step (fail))
                refine wpQuiet_nil ?_
                intro _ hw'
                obtain ⟨nq, hw''⟩ := hw'
                subst hw''
                go_wp2_with fail
                go_meet
                exact ⟨rfl, nq, rfl⟩
            · have e4 : decide ((n : Int) < 3) = false := decide_eq_false (by omega)
              rcases (by omega : ¬ 0 < k ∨ 0 < k) with h0 | h0
              · have e6 : decide ((0 : Int) < (k : Int)) = false := decide_eq_false (by omega)
                refine wp_region_quiet_lit (by kernel_rfl) (by kernel_rfl) ?_
                dsimp only [List.append]
                repeat (go_big_quiet_step (fail))
                refine wpQuiet_nil ?_
                intro _ hw'
                obtain ⟨nq, hw''⟩ := hw'
                subst hw''
                go_wp2_with fail
                go_meet
                exact ⟨rfl, nq, rfl⟩
              · obtain ⟨q, hq, hqo, hle⟩ := HQ.out h0
                have x5 := (hb.cell (p := ⟨bo, fo + (k - 1), none⟩) (by show bo < _; omega)).trans (HCo.out (k - 1) (by omega))
                have x6 := (hb.cell (p := ⟨br, fr + q, none⟩) (by show br < _; omega)).trans (HCr.out q hq)
                rw [hqo] at x5
                obtain ⟨rq, hrq⟩ : ∃ rq, rq = nth r q := ⟨_, rfl⟩
                rw [← hrq] at x6 hle
                clear hqo hrq
                have e6 : decide ((0 : Int) < (k : Int)) = true := decide_eq_true (by omega)
                have e6n : decide (0 < k) = true := decide_eq_true (by omega)
                have e7 : decide (rq < rp) = false := decide_eq_false (by omega)
                have q0 : (0 : Int) ≤ (q : Int) := by omega
                have q1 : (q : Int) < (m : Int) := by omega
                have k2 : (0 : Int) ≤ (k : Int) - 1 := by omega
                have k3 : (k : Int) - 1 < (m : Int) := by omega
                have k4 : IntKind.i64.wrap ((k : Int) - 1) = (k : Int) - 1 := IntWalk.i64_in _ (by omega)
                have k5 : ((k : Int) - 1).toNat = k - 1 := by omega
                refine wp_region_quiet_lit (by kernel_rfl) (by kernel_rfl) ?_
                dsimp only [List.append]
                repeat (go_big_quiet_step (fail))
                refine wpQuiet_nil ?_
                intro _ hw'
                obtain ⟨nq, hw''⟩ := hw'
                subst hw''
                go_wp2_with fail
                go_meet
                exact ⟨rfl, nq, rfl⟩
          case rest =>
            obtain ⟨rfl, nq, rfl⟩ := hcut
            clear x2 x3 x4 HE HQ h3 h4 e1 e2 e2n e3
            go_wp2_with fail
            rw [or_pow _ _ (by have := HB.out; have : 2 ^ m ≤ 2 ^ 5 := Nat.pow_le_pow_right (by omega) m5; omega) (by omega), ← HS.out]
            obtain ⟨wq, hwq⟩ : ∃ wq, wq = wr.drewN nq := ⟨_, rfl⟩
            have hb2 : Below w5.heap.size w5 wq := by rw [hwq]; exact ⟨hb.os, hb.tape, hb.output, hb.size, hb.block⟩
            rw [← hwq]
            clear hwq hb x1
            go_loopw [13] (fun iv wx => ∃ i : Nat, i ≤ m ∧ iv = .int .i64 i ∧ Below w5.heap.size w5 wx) (fun iv _ => m - (intOf iv).toNat)
            case atStart => exact ⟨0, by omega, rfl, hb2⟩
            case round =>
              clear hb2 sb
              obtain ⟨i, hi, rfl, hb⟩ := hrel
              obtain ⟨wx, rfl⟩ : ∃ wx : World, wx = wr := ⟨_, rfl⟩
              by_cases him : i < m
              · rcases Bool.eq_false_or_eq_true (beats z n i k) with hB1 | hB1
                · have hkw : ¬ W = (k : Int) := fun e => by
                    rcases HF.out.win with ⟨h1, _⟩ | ⟨v, hv, h1, h2⟩
                    · omega
                    · obtain rfl : v = k := by omega
                      by_cases h3 : v = i
                      · subst h3; rw [beats_self] at hB1; cases hB1
                      · have := h2 i him h3; rw [beats_anti z n i v hB1] at this; cases this
                  by_cases e1 : W = (i : Int)
                  · have HWi := Lib.hid e1
                    clear e1
                    clear hkw
                    have y1 : ((i : Int) != W) = false := by rw [HWi.out]; simp
                    have y3 : ((i : Int) == W) = true := by rw [HWi.out]; simp
                    go_wp2_with fail
                    refine (impl_beats _ n c z i k _ wx (hp5.below hb) (by have := hb.size; omega)).mono ?_
                    rintro e w6 ⟨rfl, h1⟩
                    rw [hB1]
                    replace hb := hb.trans (h1.mono hb.size)
                    clear h1
                    go_wp2_with fail
                    refine (impl_beats _ n c z k i _ w6 (hp5.below hb) (by have := hb.size; omega)).mono ?_
                    rintro e w7 ⟨rfl, h1⟩
                    rw [(beats_anti z n i k hB1)]
                    replace hb := hb.trans (h1.mono hb.size)
                    clear h1
                    go_wp2_with fail
                    refine (impl_beats _ n c z k k _ w7 (hp5.below hb) (by have := hb.size; omega)).mono ?_
                    rintro e w8 ⟨rfl, h1⟩
                    rw [(beats_self z n k)]
                    replace hb := hb.trans (h1.mono hb.size)
                    clear h1
                    go_wp2
                    go_roundw
                    case rel => exact ⟨i + 1, by omega, by go_num, hb⟩
                    case measure => simp [intOf]; omega
                  · have HWi := Lib.hid e1
                    clear e1
                    have HWk := Lib.hid hkw
                    clear hkw
                    have y1 : ((i : Int) != W) = true := by simpa using fun e : (i : Int) = W => HWi.out e.symm
                    have y3 : ((i : Int) == W) = false := beq_eq_false_iff_ne.2 fun e => HWi.out e.symm
                    have y2 : (W == (k : Int)) = false := beq_eq_false_iff_ne.2 HWk.out
                    go_wp2_with fail
                    refine (impl_beats _ n c z i k _ wx (hp5.below hb) (by have := hb.size; omega)).mono ?_
                    rintro e w6 ⟨rfl, h1⟩
                    rw [hB1]
                    replace hb := hb.trans (h1.mono hb.size)
                    clear h1
                    go_wp2_with fail
                    refine (impl_beats _ n c z k i _ w6 (hp5.below hb) (by have := hb.size; omega)).mono ?_
                    rintro e w7 ⟨rfl, h1⟩
                    rw [(beats_anti z n i k hB1)]
                    replace hb := hb.trans (h1.mono hb.size)
                    clear h1
                    go_wp2_with fail
                    refine (impl_beats _ n c z k k _ w7 (hp5.below hb) (by have := hb.size; omega)).mono ?_
                    rintro e w8 ⟨rfl, h1⟩
                    rw [(beats_self z n k)]
                    replace hb := hb.trans (h1.mono hb.size)
                    clear h1
                    go_wp2
                    go_roundw
                    case rel => exact ⟨i + 1, by omega, by go_num, hb⟩
                    case measure => simp [intOf]; omega
                · have HWw := Lib.hid (fun (e : W = (k : Int)) (hne : ¬ W = (i : Int)) => show beats z n k i = true by
                    rcases HF.out.win with ⟨h1, _⟩ | ⟨v, hv, h1, h2⟩
                    · omega
                    · obtain rfl : v = k := by omega
                      exact h2 i him (by omega))
                  by_cases e1 : W = (i : Int)
                  · have HWi := Lib.hid e1
                    clear e1
                    have y1 : ((i : Int) != W) = false := by rw [HWi.out]; simp
                    have y3 : ((i : Int) == W) = true := by rw [HWi.out]; simp
                    go_wp2_with fail
                    refine (impl_beats _ n c z i k _ wx (hp5.below hb) (by have := hb.size; omega)).mono ?_
                    rintro e w6 ⟨rfl, h1⟩
                    rw [hB1]
                    replace hb := hb.trans (h1.mono hb.size)
                    clear h1
                    go_wp2_with fail
                    refine (impl_beats _ n c z k k _ w6 (hp5.below hb) (by have := hb.size; omega)).mono ?_
                    rintro e w7 ⟨rfl, h1⟩
                    rw [(beats_self z n k)]
                    replace hb := hb.trans (h1.mono hb.size)
                    clear h1
                    go_wp2
                    go_roundw
                    case rel => exact ⟨i + 1, by omega, by go_num, hb⟩
                    case measure => simp [intOf]; omega
                  · by_cases e2 : W = (k : Int)
                    · have HWb := Lib.hid (HWw.out e2 e1)
                      have HWi := Lib.hid e1
                      clear e1
                      have HWk := Lib.hid e2
                      clear e2
                      have y1 : ((i : Int) != W) = true := by simpa using fun e : (i : Int) = W => HWi.out e.symm
                      have y3 : ((i : Int) == W) = false := beq_eq_false_iff_ne.2 fun e => HWi.out e.symm
                      have y2 : (W == (k : Int)) = true := beq_iff_eq.2 HWk.out
                      go_wp2_with fail
                      refine (impl_beats _ n c z i k _ wx (hp5.below hb) (by have := hb.size; omega)).mono ?_
                      rintro e w6 ⟨rfl, h1⟩
                      rw [hB1]
                      replace hb := hb.trans (h1.mono hb.size)
                      clear h1
                      go_wp2_with fail
                      refine (impl_beats _ n c z k k _ w6 (hp5.below hb) (by have := hb.size; omega)).mono ?_
                      rintro e w7 ⟨rfl, h1⟩
                      rw [(beats_self z n k)]
                      replace hb := hb.trans (h1.mono hb.size)
                      clear h1
                      go_wp2_with fail
                      refine (impl_beats _ n c z k i _ w7 (hp5.below hb) (by have := hb.size; omega)).mono ?_
                      rintro e w8 ⟨rfl, h1⟩
                      rw [HWb.out]
                      replace hb := hb.trans (h1.mono hb.size)
                      clear h1
                      go_wp2
                      go_roundw
                      case rel => exact ⟨i + 1, by omega, by go_num, hb⟩
                      case measure => simp [intOf]; omega
                    · have HWi := Lib.hid e1
                      clear e1
                      have HWk := Lib.hid e2
                      clear e2
                      have y1 : ((i : Int) != W) = true := by simpa using fun e : (i : Int) = W => HWi.out e.symm
                      have y3 : ((i : Int) == W) = false := beq_eq_false_iff_ne.2 fun e => HWi.out e.symm
                      have y2 : (W == (k : Int)) = false := beq_eq_false_iff_ne.2 HWk.out
                      go_wp2_with fail
                      refine (impl_beats _ n c z i k _ wx (hp5.below hb) (by have := hb.size; omega)).mono ?_
                      rintro e w6 ⟨rfl, h1⟩
                      rw [hB1]
                      replace hb := hb.trans (h1.mono hb.size)
                      clear h1
                      go_wp2_with fail
                      refine (impl_beats _ n c z k k _ w6 (hp5.below hb) (by have := hb.size; omega)).mono ?_
                      rintro e w7 ⟨rfl, h1⟩
                      rw [(beats_self z n k)]
                      replace hb := hb.trans (h1.mono hb.size)
                      clear h1
                      go_wp2
                      go_roundw
                      case rel => exact ⟨i + 1, by omega, by go_num, hb⟩
                      case measure => simp [intOf]; omega
              · obtain rfl : m = i := by omega
                go_wp2
                go_roundw
                case rel => exact ⟨k + 1, by omega, by go_num, rfl, hb⟩
                case measure => simp [intOf]; omega
    · obtain rfl : m = k := by omega
      rw [HF.out.sn]
      obtain ⟨S, hS⟩ : ∃ S, S = 2 ^ m - 1 := ⟨_, rfl⟩
      have hS2 : S ≤ 31 ∧ ((S : Int) == wrap64 (wrap64 ((2 : Int) ^ m) - 1)) = true := by rw [hS]; exact full_small m m1 m5
      rw [← hS]
      clear hS
      obtain ⟨S31, q1⟩ := hS2
      rcases HF.out.win with ⟨hW1, hno⟩ | ⟨v, hv, hW1, hall⟩
      · have HN := Lib.hid hno
        have HWi := Lib.hid hW1
        have y1 : (W == -1) = true := beq_iff_eq.2 hW1
        have y2 : decide (W < (m : Int)) = true := decide_eq_true (by omega)
        clear hW1 hno
        go_wp2_with fail
        go_loopw [14, 15, 16] (fun iv _ _ wx => ∃ i : Nat, i ≤ m ∧ iv = .int .i64 i ∧ Below w5.heap.size w5 wx) (fun iv _ _ _ => m - (intOf iv).toNat)
        case atStart => exact ⟨0, by omega, rfl, hb⟩
        case round =>
          clear hb sb
          obtain ⟨i, hi, rfl, hb⟩ := hrel
          by_cases him : i < m
          · have HNi := Lib.hid (HN.out i him)
            go_wp2_with fail
            go_loopw [15, 16] (fun nv kv wx => ∃ q : Nat, q ≤ m ∧ kv = .int .i64 q ∧ nv = .int .i64 ((beatN z n i q : Nat) : Int) ∧ Below w5.heap.size w5 wx) (fun _ kv _ => m - (intOf kv).toNat)
            case atStart => exact ⟨0, by omega, rfl, rfl, hb⟩
            case round =>
              clear hb
              obtain ⟨q, hq, rfl, rfl, hb⟩ := hrel
              have hbn : beatN z n i q ≤ q := by have := (beatN_le z n i q).1; omega
              obtain ⟨B, hB⟩ : ∃ B, B = beatN z n i q := ⟨_, rfl⟩
              have HB := Lib.hid hB
              rw [← hB] at hbn ⊢
              clear hB
              obtain ⟨wx, rfl⟩ : ∃ wx : World, wx = wr := ⟨_, rfl⟩
              by_cases hqm : q < m
              · rcases Bool.eq_false_or_eq_true (beats z n i q) with e1 | e1
                · have HS := Lib.hid (show B + 1 = beatN z n i (q + 1) by rw [HB.out]; simp [beatN, e1])
                  go_wp2_with fail
                  refine (spec_beats _ n c z i q _ wx (hp5.below hb) (by have := hb.size; omega)).mono ?_
                  rintro e w6 ⟨rfl, h1⟩
                  rw [e1]
                  replace hb := hb.trans (h1.mono hb.size)
                  clear h1
                  go_wp2_with fail
                  refine (btoi_t _).mono ?_
                  rintro e w' ⟨rfl, rfl⟩
                  go_wp2
                  go_roundw
                  case rel => exact ⟨q + 1, by omega, by go_num, by rw [← HS.out]; go_num, hb⟩
                  case measure => simp [intOf]; omega
                · have HS := Lib.hid (show B = beatN z n i (q + 1) by rw [HB.out]; simp [beatN, e1])
                  go_wp2_with fail
                  refine (spec_beats _ n c z i q _ wx (hp5.below hb) (by have := hb.size; omega)).mono ?_
                  rintro e w6 ⟨rfl, h1⟩
                  rw [e1]
                  replace hb := hb.trans (h1.mono hb.size)
                  clear h1
                  go_wp2_with fail
                  refine (btoi_f _).mono ?_
                  rintro e w' ⟨rfl, rfl⟩
                  go_wp2
                  go_roundw
                  case rel => exact ⟨q + 1, by omega, by go_num, by rw [← HS.out], hb⟩
                  case measure => simp [intOf]; omega
              · obtain rfl : m = q := by omega
                have y3 : ((B : Int) == (m : Int) - 1) = false := beq_eq_false_iff_ne.2 fun e => HNi.out (by rw [← HB.out]; omega)
                go_wp2
                go_roundw
                case rel => exact ⟨i + 1, by omega, by go_num, hb⟩
                case measure => simp [intOf]; omega
          · obtain rfl : m = i := by omega
            go_wp2_with fail
            refine (impl_sheetOk _ n c z _ _ (hp5.below hb)).mono ?_
            rintro e w' ⟨rfl, rfl⟩
            rw [HO.out]
            go_wp2_with fail
            refine (impl_winner _ 1 1 (fun _ => [4]) _ _ (lit_four _) (by simp)).mono ?_
            rintro e w9 ⟨rfl, h9⟩
            rw [win_one]
            have sz := hb.size
            have hb9 := hb5'.trans ((((hb.alloc hb.size _).alloc (by simp; omega) _).trans (h9.mono (by simp; omega))).mono (by have := hb5'.size; omega))
            clear h9
            go_wp2
            go_ret
            exact ⟨rfl, hb9⟩
      · have y1 : (W == -1) = false := beq_eq_false_iff_ne.2 (by omega)
        have y2 : decide (W < (m : Int)) = true := decide_eq_true (by omega)
        clear hW1 hall
        go_wp2_with fail
        refine (impl_sheetOk _ n c z _ _ (hp5.below hb)).mono ?_
        rintro e w' ⟨rfl, rfl⟩
        rw [HO.out]
        go_wp2_with fail
        refine (impl_winner _ 1 1 (fun _ => [4]) _ _ (lit_four _) (by simp)).mono ?_
        rintro e w9 ⟨rfl, h9⟩
        rw [win_one]
        have sz := hb.size
        have hb9 := hb5'.trans ((((hb.alloc hb.size _).alloc (by simp; omega) _).trans (h9.mono (by simp; omega))).mono (by have := hb5'.size; omega))
        clear h9
        go_wp2
        go_ret
        exact ⟨rfl, hb9⟩

set_option maxRecDepth 100000 in
theorem lifted (os : Os) (started : os.Started) (H : Type) (enc : TypeId × Value → H) :
    ReturnsInHanded {} Try.checked os 9 .any (Rows.fnFairsSpec.pre6 enc Try.prog Try.f9 Rows.fnFairsRow.domain false) (Rows.fnFairsSpec.post enc Try.prog Try.f9 false true false false) := by
  refine returnsInHanded_of_change (C := Try.checked) own started (by kernel_rfl) Try.func9
    (ChangeSpec.witness6 (enc := enc) (C := Try.checked) false ⟨#[], #[.slice none 0 0], []⟩ 8 (by kernel_rfl) (by kernel_rfl) (by kernel_rfl) (by kernel_rfl)) ?_
  intro W base args ds gs before hval0 hW hcnd _
  have hval : ∀ (j : Nat) t v, Try.f9.params[j]? = some t → args[j]? = some v → Value.okWide Try.prog W .any base t v := hval0
  have hW' := hW
  obtain ⟨p, q, hA0, hV, rfl, hfz, hnd⟩ := hW
  have hA : DataW.TrodAll enc Try.prog W 0 (fun _ => true) true Try.f9.params.toList args.toList ds p := hA0
  rw [Try.params9] at hA hval
  obtain ⟨v0, vs0, d0, ds0, p0, q0, hargs, rfl, rfl, h0, r0⟩ := trodAll_cons hA
  obtain ⟨rfl, rfl, rfl⟩ := trodAll_nil r0
  obtain rfl : args = #[v0] := by cases args; simp_all
  obtain ⟨rfl, rfl⟩ := trodVars_none hV
  have k0 := h0
  have lt0 : ∀ x ∈ p0, x.block < W.heap.size := by obtain ⟨m, hm⟩ := k0; exact DataW.trod_lt m _ _ _ hm
  obtain ⟨a0, l0, c0, rfl⟩ := okWide_slice Try.underlying33 (hval 0 33 v0 rfl rfl)
  obtain ⟨z0, w0⟩ := open_rowI Try.underlying33 Try.underlying5 (by kernel_rfl) (h0)
  clear hA0 hval0
  refine (walk a0 l0 c0 z0 W w0).mono fun e W' ⟨he, bel⟩ => ?_
  subst he
  exact ⟨_, rfl, _, _, _, [], _, [], hW', trodAll_mk1 (shut_bool Try.underlying4 _), (trodAll_cons_mk (Below.trod laidOut (by kernel_rfl) (of_decide_eq_true (by kernel_rfl)) k0 bel lt0) trodAll_mk0), rfl, bel.frame _, fun h => by cases h⟩

theorem over : Rows.fnFairsRow.holds Try.pinned (OpenSpec.ofChange Rows.fnFairsSpec) :=
  OpenClaim.holds_of_wide 9 Try.f9 rfl rfl rfl rfl rfl rfl rfl ⟨rfl, rfl, rfl, rfl, rfl⟩ rfl rfl rfl rfl rfl (by kernel_rfl) Try.func9 (by kernel_rfl)
    (of_decide_eq_true (by kernel_rfl)) (by unfold Func.isWrapper; first | (rw [if_pos (by decide +kernel)]; kernel_rfl) | (rw [if_neg (by decide +kernel)]; exact ⟨rfl, rfl⟩))
    (fun os started H enc _ => lifted os started H enc)

/-- The statement. -/
theorem proved : Rows.FnFairsSaid := over
#print axioms proved
end Go.Proofs.Ytmpadppnhhamhaa.fnFairs
