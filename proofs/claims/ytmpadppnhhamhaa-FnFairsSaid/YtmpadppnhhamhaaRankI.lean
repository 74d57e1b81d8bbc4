/- Contracts of RankingOf: the program's and the reference's. -/
import Derived.Test.YtmpadppnhhamhaaTrim
import Derived.Test.YtmpadppnhhamhaaApp
import Derived.Test.YtmpadppnhhamhaaPureRank
import Derived.Test.YtmpadppnhhamhaaRank
import Derived.Laws.CopyOwn
import Derived.ArgAppend
import Derived.Deep.RegionHeld3
import Derived.Deep.QuietTactic
import Derived.BigQuiet
import Derived.Outline
namespace Go.Proofs.Ytmpadppnhhamhaa
open Go.ChangeShapes Go.WideShapes Go.ChangeAt Go.RowKit
set_option maxRecDepth 100000 in
set_option maxHeartbeats 16000000 in
theorem impl_ranking (A : Option Addr) (n c : Nat) (z : Nat → List Int) (R : List Int) (B : Nat) (w : World) (h : RowII w B A n c z) (hB : B ≤ w.heap.size) (hR : Hid (R = rankOf z n)) :
    Calls Try.prog 28 #[.slice A n c] w fun e w' => ∃ A2 c2, e = .returned (.slice A2 R.length c2) ∧ OwnI w' w.heap.size (.slice A2 R.length c2) R ∧ Below w.heap.size w w' := by
  have hcap := h.cap
  unfold maxLen at hcap
  obtain ⟨a, ha⟩ : ∃ a, a = trimmedOf z n := ⟨_, rfl⟩
  obtain ⟨b, hbb⟩ : ∃ b, b = totalsOf z n := ⟨_, rfl⟩
  obtain ⟨m, hm⟩ : ∃ m, m = b.length := ⟨_, rfl⟩
  have m12 : m ≤ 12 := by rw [hm, hbb]; exact totals_le z n
  have HA := Lib.hid ha
  have HB := Lib.hid hbb
  have HLb := Lib.hid hm.symm
  have HLa := Lib.hid (show a.length = m by rw [hm, ha, hbb]; exact trimmed_len z n)
  have HR := Lib.hid (show R = rankTo a b m by rw [hR.out, ← HLa.out, ha, hbb]; rfl)
  have HRl := Lib.hid (show R.length = m by rw [HR.out, rankTo_len])
  clear ha hbb hm hR
  rcases Bool.eq_false_or_eq_true (sheetOk z n) with hO | hO
  rotate_left
  · have HM : m = 0 := by rw [← HLb.out, HB.out]; simp [totalsOf, hO]
    subst HM
    go_enter Try.func28, Try.ntmps28
    go_wp2_with (go_at_call 13; refine (impl_sheetOk A n c z B _ h).mono ?_; rintro e w' ⟨rfl, rfl⟩; rw [hO])
    go_ret
    rw [HRl.out]
    refine ⟨_, _, rfl, ?_, Below.refl _ _⟩
    rw [HR.out]
    exact own_nil w _
  go_enter Try.func28, Try.ntmps28
  go_wp2_with fail
  refine (impl_sheetOk A n c z B _ h).mono ?_
  rintro e w' ⟨rfl, rfl⟩
  rw [hO]
  go_wp2_with fail
  refine (impl_trimmed A n c z a B _ h hB HA).mono ?_
  rintro e w1 ⟨Aa, ca, rfl, hoa, hb1⟩
  rw [HLa.out] at hoa ⊢
  have s1 := hb1.size
  go_wp2_with fail
  refine (impl_totals A n c z b B _ (h.keep fun p hp => hb1.cell (by omega)) (by omega) HB).mono ?_
  rintro e w2 ⟨Ab, cb, rfl, hob, hb2⟩
  rw [HLb.out] at hob ⊢
  have s2 := hb2.size
  have hb2' := hb1.trans (hb2.mono s1)
  have hoa2 := hoa.keep hb2
  clear hb1 hb2 hoa
  go_wp2_with fail
  go_loopw [5, 6, 7, 18] (fun v _ _ iv wr => ∃ (i : Nat) (A2 : Option Addr) (c2 : Nat), i ≤ m ∧ iv = .int .i64 i ∧ v = .slice A2 i c2 ∧ OwnI wr w2.heap.size (.slice A2 i c2) (rankTo a b i) ∧ Below w2.heap.size w2 wr) (fun _ _ _ iv _ => m - (intOf iv).toNat)
  case atStart => exact ⟨0, _, _, by omega, rfl, rfl, own_empty w2, (Below.refl _ _).alloc (Nat.le_refl _) _⟩
  case round =>
    obtain ⟨i, A2, c2, hi, rfl, rfl, ho, hb⟩ := hrel
    have HLi := Lib.hid (rankTo_len a b i)
    by_cases hil : i < m
    · go_wp2_with fail
      go_loopw [7] (fun pv wr => ∃ p : Nat, p ≤ i ∧ pv = .int .i64 p ∧ Hid (downTo a b (rankTo a b i) i i = downTo a b (rankTo a b i) i p) ∧ OwnI wr w2.heap.size (.slice A2 i c2) (rankTo a b i) ∧ Below w2.heap.size w2 wr) (fun pv _ => (intOf pv).toNat)
      case atStart => exact ⟨i, by omega, rfl, Lib.hid rfl, ho, hb⟩
      case round =>
        clear ho hb
        obtain ⟨p, hp, rfl, HD, ho, hb⟩ := hrel
        have hbw := hb.size
        rcases (by omega : p = 0 ∨ 0 < p) with rfl | hpp
        · have HS := Lib.hid (show insAt (rankTo a b i) 0 i = rankTo a b (i + 1) by
            simp only [rankTo]; rw [rankTo_len, HD.out]; rfl)
          have d0 : decide ((0 : Int) < 0) = false := by decide
          go_wp2_with fail
          go_quiet (fail)
          rename_i nq
          go_wp2_with (at_builtin; refine app_shape rfl _ _ rfl w2.heap.size _ (rankTo a b i) 0 wr.heap.size i HLi.out rfl (show OwnI ((wr.drewN nq).alloc _) _ _ _ from ho.alloc _) rfl (heap_alloc_new wr _) (by rw [HLi.out]; omega) (by simp; omega) ?_; intro A4 c4 w4 ho4 hb4)
          have hb5 : Below w2.heap.size w2 w4 := (show Below w2.heap.size w2 ((wr.drewN nq).alloc _) from Below.alloc (w := wr.drewN nq) ⟨hb.os, hb.tape, hb.output, hb.size, hb.block⟩ hbw _).trans hb4
          clear hb4
          have fo4 := ho4.form.2
          rcases fo4 with ⟨_, hbad⟩ | ⟨g4, rfl⟩
          · omega
          have ho5 : OwnI w4 w2.heap.size (.slice (some ⟨g4, 0, none⟩) (i + 1) c4) (rankTo a b i ++ [0]) := ho4
          have hc5 := ho5.2
          have hic : i + 1 ≤ c4 := by
            rcases ho5.2 with ⟨h', _⟩ | ⟨g', cap', cur, h', _, _, hnc, _⟩
            · simp at h'
            · simp only [Value.slice.injEq, Option.some.injEq, Addr.mk.injEq, and_true, true_and] at h'
              omega
          clear hc5 ho4
          have k1 : IntKind.i64.wrap 1 = 1 := rfl
          have k2 : (1 : Int) ≤ (i : Int) + 1 := by omega
          have k3 : (0 : Int) ≤ (i : Int) + 1 := by omega
          have k4 : (0 : Int) < (i : Int) + 1 := by omega
          go_region_held3 (fun _ => True) (first | go_keep | (exact trivial)) (((refine copy_shift (w0 := w2) rfl (.tmp 78) (.tmp 81) rfl w2.heap.size g4 (i + 1) c4 0 (rankTo a b i ++ [0]) _ _ _ _ _ _ rfl rfl (by omega) (by omega) ho5 (by omega) (fun hh => ⟨by first | rfl | exact if_neg (by omega), by first | rfl | exact if_neg (by omega)⟩) ⟨hb5.os, hb5.tape, hb5.output, hb5.size, hb5.block⟩ ?_; intro w6 ho6 hb6)))
          all_goals
            have hos := ho6.stored 0 (i : Int)
            have HT := shift_ins (rankTo a b i) (p := 0) (by rw [HLi.out]; omega) (i : Int)
            rw [HLi.out] at HT
            rw [HT, HS.out] at hos
            have ct := ho6.cellAt (j := 0) (by rw [← ho6.size]; omega)
            have hf := ho6.frozenAt 0
            have hg4 := ho6.ge
            have hb7 := hb6.setCell (p := ⟨g4, 0, none⟩) hg4.1 (.int .i64 (i : Int))
            clear ho6 hb6 ho5 hb5 HT
            go_wp2
            go_roundw
            case rel => exact ⟨i + 1, _, _, by omega, by go_num, by go_num, hos, hb7⟩
            case measure => simp [intOf]; omega
        · obtain ⟨p, rfl⟩ : ∃ k, p = k + 1 := ⟨p - 1, by omega⟩
          have fo := ho.form.2
          rcases fo with ⟨_, hbad⟩ | ⟨g, rfl⟩
          · omega
          have hnq := rankTo_nth a b (i := i) (j := p) (by omega)
          obtain ⟨q, hq⟩ : ∃ q : Nat, nth (rankTo a b i) p = (q : Int) := ⟨(nth (rankTo a b i) p).toNat, by omega⟩
          have c1 := ho.cellAt (j := p) (by rw [HLi.out]; omega)
          rw [hq] at c1
          have hqi : q < i := by omega
          have q0 : (0 : Int) ≤ (q : Int) := by omega
          have q1 : (q : Int) < (m : Int) := by omega
          have i0 : (0 : Int) ≤ (i : Int) := by omega
          have i1 : (i : Int) < (m : Int) := by omega
          have p0 : (0 : Int) ≤ (p : Int) := by omega
          have p1 : (p : Int) < (i : Int) := by omega
          have p4 : (0 : Int) < (p : Int) + 1 := by omega
          have HW := Lib.hid (show worse a b i (nth (rankTo a b i) (p + 1 - 1)).toNat = (decide (nth a q < nth a i) || (decide (nth a q = nth a i) && decide (nth b q < nth b i))) by rw [Nat.add_sub_cancel, hq]; rfl)
          have hoa3 := hoa2.keep hb
          have hob3 := hob.keep hb
          have fa := hoa3.form.2
          rcases fa with ⟨_, hbad⟩ | ⟨ga, rfl⟩
          · omega
          have fb := hob3.form.2
          rcases fb with ⟨_, hbad⟩ | ⟨gb, rfl⟩
          · omega
          have a1 := hoa3.cellAt (j := q) (by rw [HLa.out]; omega)
          have a2 := hoa3.cellAt (j := i) (by rw [HLa.out]; omega)
          have b1 := hob3.cellAt (j := q) (by rw [HLb.out]; omega)
          have b2 := hob3.cellAt (j := i) (by rw [HLb.out]; omega)
          clear hoa3 hob3 hnq
          obtain ⟨va, hva⟩ : ∃ v, v = nth a q := ⟨_, rfl⟩
          obtain ⟨ua, hua⟩ : ∃ v, v = nth a i := ⟨_, rfl⟩
          obtain ⟨vb, hvb⟩ : ∃ v, v = nth b q := ⟨_, rfl⟩
          obtain ⟨ub, hub⟩ : ∃ v, v = nth b i := ⟨_, rfl⟩
          rw [← hva, ← hua, ← hvb, ← hub] at HW
          rw [← hva] at a1
          rw [← hua] at a2
          rw [← hvb] at b1
          rw [← hub] at b2
          clear hva hua hvb hub
          rcases (by omega : va < ua ∨ (va = ua ∧ vb < ub) ∨ (va = ua ∧ ub ≤ vb) ∨ ua < va) with d | ⟨d, d2⟩ | ⟨d, d2⟩ | d
          · clear b1 b2
            have d3 : decide (va < ua) = true := decide_eq_true (by omega)
            have HD2 := Lib.hid (HD.out.trans (downTo_yes (by omega) (HW.out.trans (by simp [d]))))
            go_wp2_with fail
            go_quiet (fail)
            go_wp2
            go_roundw
            case rel => exact ⟨p, by omega, by go_num, HD2, ho, ⟨hb.os, hb.tape, hb.output, hb.size, hb.block⟩⟩
            case measure => simp [intOf]
          · subst d
            have d3 : decide (va < va) = false := decide_eq_false (by omega)
            have d4 : decide (vb < ub) = true := decide_eq_true (by omega)
            have HD2 := Lib.hid (HD.out.trans (downTo_yes (by omega) (HW.out.trans (by simp [d2]))))
            go_wp2_with fail
            go_quiet (fail)
            go_wp2
            go_roundw
            case rel => exact ⟨p, by omega, by go_num, HD2, ho, ⟨hb.os, hb.tape, hb.output, hb.size, hb.block⟩⟩
            case measure => simp [intOf]
          · subst d
            have d0 : ¬ vb < ub := by omega
            have d3 : decide (va < va) = false := decide_eq_false (by omega)
            have d4 : decide (vb < ub) = false := decide_eq_false (by omega)
            have HD2 := Lib.hid (HD.out.trans (downTo_no (by omega) (HW.out.trans (by simp [d0]))))
            have HS := Lib.hid (show insAt (rankTo a b i) (p + 1) i = rankTo a b (i + 1) by
              simp only [rankTo]; rw [rankTo_len, HD2.out])
            go_wp2_with fail
            go_quiet (fail)
            rename_i nq
            go_wp2_with (at_builtin; refine app_shape rfl _ _ rfl w2.heap.size _ (rankTo a b i) 0 wr.heap.size i HLi.out rfl (show OwnI ((wr.drewN nq).alloc _) _ _ _ from ho.alloc _) rfl (heap_alloc_new wr _) (by rw [HLi.out]; omega) (by simp; omega) ?_; intro A4 c4 w4 ho4 hb4)
            have hb5 : Below w2.heap.size w2 w4 := (show Below w2.heap.size w2 ((wr.drewN nq).alloc _) from Below.alloc (w := wr.drewN nq) ⟨hb.os, hb.tape, hb.output, hb.size, hb.block⟩ hbw _).trans hb4
            clear hb4
            have fo4 := ho4.form.2
            rcases fo4 with ⟨_, hbad⟩ | ⟨g4, rfl⟩
            · omega
            have ho5 : OwnI w4 w2.heap.size (.slice (some ⟨g4, 0, none⟩) (i + 1) c4) (rankTo a b i ++ [0]) := ho4
            have hc5 := ho5.2
            have hic : i + 1 ≤ c4 := by
              rcases ho5.2 with ⟨h', _⟩ | ⟨g', cap', cur, h', _, _, hnc, _⟩
              · simp at h'
              · simp only [Value.slice.injEq, Option.some.injEq, Addr.mk.injEq, and_true, true_and] at h'
                omega
            clear hc5 ho4
            have k1 : IntKind.i64.wrap ((p : Int) + 1 + 1) = (p : Int) + 1 + 1 := IntWalk.i64_in _ (by omega)
            have k2 : ((p : Int) + 1 + 1).toNat = p + 1 + 1 := by omega
            have k3 : (0 : Int) ≤ (p : Int) + 1 + 1 := by omega
            have k4 : (p : Int) + 1 + 1 ≤ (i : Int) + 1 := by omega
            have k5 : (0 : Int) ≤ (p : Int) + 1 := by omega
            have k6 : (p : Int) + 1 ≤ (i : Int) + 1 := by omega
            have k7 : ((p : Int) + 1).toNat = p + 1 := by omega
            have k8 : (p : Int) + 1 < (i : Int) + 1 := by omega
            go_region_held3 (fun _ => True) (first | go_keep | (exact trivial)) (((refine copy_shift (w0 := w2) rfl (.tmp 78) (.tmp 81) rfl w2.heap.size g4 (i + 1) c4 (p + 1) (rankTo a b i ++ [0]) _ _ _ _ _ _ rfl rfl (by omega) (by omega) ho5 (by omega) (fun hh => ⟨by first | rfl | exact if_neg (by omega), by first | rfl | exact if_neg (by omega)⟩) ⟨hb5.os, hb5.tape, hb5.output, hb5.size, hb5.block⟩ ?_; intro w6 ho6 hb6)))
            all_goals
              have hos := ho6.stored (p + 1) (i : Int)
              have HT := shift_ins (rankTo a b i) (p := (p + 1)) (by rw [HLi.out]; omega) (i : Int)
              rw [HLi.out] at HT
              rw [HT, HS.out] at hos
              have ct := ho6.cellAt (j := (p + 1)) (by rw [← ho6.size]; omega)
              have hf := ho6.frozenAt (p + 1)
              have hg4 := ho6.ge
              have hb7 := hb6.setCell (p := ⟨g4, (p + 1), none⟩) hg4.1 (.int .i64 (i : Int))
              clear ho6 hb6 ho5 hb5 HT
              go_wp2
              go_roundw
              case rel => exact ⟨i + 1, _, _, by omega, by go_num, by go_num, hos, hb7⟩
              case measure => simp [intOf]; omega
          · have d0 : ¬ va < ua := by omega
            have d1 : ¬ va = ua := by omega
            have d2 : (va == ua) = false := beq_eq_false_iff_ne.2 d1
            have d3 : decide (va < ua) = false := decide_eq_false (by omega)
            have d4 : decide (va = ua) = false := decide_eq_false (by omega)
            have HD2 := Lib.hid (HD.out.trans (downTo_no (by omega) (HW.out.trans (by simp [d0, d1]))))
            have HS := Lib.hid (show insAt (rankTo a b i) (p + 1) i = rankTo a b (i + 1) by
              simp only [rankTo]; rw [rankTo_len, HD2.out])
            go_wp2_with fail
            go_quiet (fail)
            rename_i nq
            go_wp2_with (at_builtin; refine app_shape rfl _ _ rfl w2.heap.size _ (rankTo a b i) 0 wr.heap.size i HLi.out rfl (show OwnI ((wr.drewN nq).alloc _) _ _ _ from ho.alloc _) rfl (heap_alloc_new wr _) (by rw [HLi.out]; omega) (by simp; omega) ?_; intro A4 c4 w4 ho4 hb4)
            have hb5 : Below w2.heap.size w2 w4 := (show Below w2.heap.size w2 ((wr.drewN nq).alloc _) from Below.alloc (w := wr.drewN nq) ⟨hb.os, hb.tape, hb.output, hb.size, hb.block⟩ hbw _).trans hb4
            clear hb4
            have fo4 := ho4.form.2
            rcases fo4 with ⟨_, hbad⟩ | ⟨g4, rfl⟩
            · omega
            have ho5 : OwnI w4 w2.heap.size (.slice (some ⟨g4, 0, none⟩) (i + 1) c4) (rankTo a b i ++ [0]) := ho4
            have hc5 := ho5.2
            have hic : i + 1 ≤ c4 := by
              rcases ho5.2 with ⟨h', _⟩ | ⟨g', cap', cur, h', _, _, hnc, _⟩
              · simp at h'
              · simp only [Value.slice.injEq, Option.some.injEq, Addr.mk.injEq, and_true, true_and] at h'
                omega
            clear hc5 ho4
            have k1 : IntKind.i64.wrap ((p : Int) + 1 + 1) = (p : Int) + 1 + 1 := IntWalk.i64_in _ (by omega)
            have k2 : ((p : Int) + 1 + 1).toNat = p + 1 + 1 := by omega
            have k3 : (0 : Int) ≤ (p : Int) + 1 + 1 := by omega
            have k4 : (p : Int) + 1 + 1 ≤ (i : Int) + 1 := by omega
            have k5 : (0 : Int) ≤ (p : Int) + 1 := by omega
            have k6 : (p : Int) + 1 ≤ (i : Int) + 1 := by omega
            have k7 : ((p : Int) + 1).toNat = p + 1 := by omega
            have k8 : (p : Int) + 1 < (i : Int) + 1 := by omega
            go_region_held3 (fun _ => True) (first | go_keep | (exact trivial)) (((refine copy_shift (w0 := w2) rfl (.tmp 78) (.tmp 81) rfl w2.heap.size g4 (i + 1) c4 (p + 1) (rankTo a b i ++ [0]) _ _ _ _ _ _ rfl rfl (by omega) (by omega) ho5 (by omega) (fun hh => ⟨by first | rfl | exact if_neg (by omega), by first | rfl | exact if_neg (by omega)⟩) ⟨hb5.os, hb5.tape, hb5.output, hb5.size, hb5.block⟩ ?_; intro w6 ho6 hb6)))
            all_goals
              have hos := ho6.stored (p + 1) (i : Int)
              have HT := shift_ins (rankTo a b i) (p := (p + 1)) (by rw [HLi.out]; omega) (i : Int)
              rw [HLi.out] at HT
              rw [HT, HS.out] at hos
              have ct := ho6.cellAt (j := (p + 1)) (by rw [← ho6.size]; omega)
              have hf := ho6.frozenAt (p + 1)
              have hg4 := ho6.ge
              have hb7 := hb6.setCell (p := ⟨g4, (p + 1), none⟩) hg4.1 (.int .i64 (i : Int))
              clear ho6 hb6 ho5 hb5 HT
              go_wp2
              go_roundw
              case rel => exact ⟨i + 1, _, _, by omega, by go_num, by go_num, hos, hb7⟩
              case measure => simp [intOf]; omega
    · obtain rfl : i = m := by omega
      have hbe := hb2'.trans (hb.mono (by omega))
      go_wp2
      go_ret
      rw [HRl.out]
      refine ⟨_, _, rfl, ?_, hbe⟩
      rw [HR.out]
      exact ho.base (by omega)
end Go.Proofs.Ytmpadppnhhamhaa
