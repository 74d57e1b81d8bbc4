/-
  The law FnDropping: for every input the Go function returns true, and each argument reads afterwards as it read before.
  Conditions: none beyond the row's own.
-/
import Derived.Test.YtkglgbdiakinlaaSwp
import Derived.Test.YtkglgbdiakinlaaDrawn
import Derived.Test.YtkglgbdiakinlaaPureDp
import Derived.Test.YtkglgbdiakinlaaDrop
import Derived.Test.YtkglgbdiakinlaaIdle
import Derived.Test.YtkglgbdiakinlaaMiss
import Derived.ChangeOld
import Derived.Carry
namespace Go.Proofs.Ytkglgbdiakinlaa.fnDropping
open Go.ChangeShapes Go.WideShapes Go.ChangeAt Go.RowKit Go.Joins
open Go.ChangeMaps (open_string shut_string)
set_option linter.unusedVariables false

theorem own : ownKnob Try.prog.godebug = none := by kernel_rfl
theorem laidOut : laidOutB Try.prog = true := by kernel_rfl

set_option maxRecDepth 100000 in
set_option maxHeartbeats 4000000 in
theorem walk (a0 : Option Addr) (l0 c0 : Nat) (z0 : List Int) (w : World) (w0 : RowI .u8 w w.heap.size a0 l0 c0 z0) :
    Calls Try.prog 15 #[.slice a0 l0 c0] w fun e w' => e = .returned (.bool true) ∧ Below w.heap.size w w' := by
  have hcap := w0.cap
  unfold maxLen at hcap
  rcases (by omega : 1048576 < (l0 : Int) ∨ l0 ≤ 1048576) with hbig | hbig
  · have d0 : decide (1048576 < (l0 : Int)) = true := decide_eq_true hbig
    go_enter Try.func15, Try.ntmps15
    go_wp2_with (go_at_call 46; refine (big_any a0 l0 c0 _ (by omega)).mono ?_; rintro e w' ⟨rfl, rfl⟩; rw [d0])
    go_ret
    exact ⟨rfl, Below.refl _ _⟩
  have d0 : decide (1048576 < (l0 : Int)) = false := decide_eq_false (by omega)
  go_enter Try.func15, Try.ntmps15
  go_wp2_with fail
  refine (big_any a0 l0 c0 _ (by omega)).mono ?_
  rintro e w' ⟨rfl, rfl⟩
  rw [d0]
  go_wp2_with fail
  refine (drawn_any a0 l0 c0 z0 w w0 hbig).mono ?_
  rintro e w1 ⟨N, k, Ap, cp, z, n2, n8, hk, rfl, hz, hp, hb1⟩
  have HP := Lib.hid (show planGood N z = true by
    rcases hz with rfl | ⟨hE, rfl⟩
    · have := dp_swap (N - 2) (by omega)
      rwa [show N - 2 + 2 = N by omega] at this
    · have := dp_meet (N - 2) (by omega) (by omega)
      rwa [show N - 2 + 2 = N by omega] at this)
  have HZw := Lib.hid (show ∀ j, j < N - 1 → ∀ x ∈ z j, (Lit.int .i64 x).wf = true by
    intro j hj
    rcases hz with rfl | ⟨hE, rfl⟩
    · exact swapRow_wf (by omega) (by omega)
    · have := meet_wf9 (N - 2) (by omega) (by omega) j (by omega)
      rwa [show N - 2 + 2 = N by omega] at this)
  clear hz
  obtain ⟨L, hL⟩ : ∃ L, L = N - 1 := ⟨_, rfl⟩
  rw [← hL] at hp HZw ⊢
  have HL := Lib.hid hL
  have l1 : L < N := by omega
  have l2 : N ≤ L + 1 := by omega
  clear hL
  have hp1 : RowII w1 w1.heap.size Ap L cp z := hp.rowII HZw.out
  have s1 := hb1.size
  clear hp
  have HG := Lib.hid (show dropGood N k z = true by
    have := HP.out
    simp only [planGood, Bool.and_eq_true] at this
    exact allTo_iff.1 this.2 k hk)
  have HO := Lib.hid (show dropOk (N : Int) z L (k : Int) = true ∧ allTo (fun r => leftOk N k (dropZ z k r)) L = true ∧ (missL N (dropZ z k) L).length = 2 * L ∧ repeated N (dropZ z k) L + othersTo (dropZ z k) L = (N : Int) - 1 by
    have := HG.out
    simp only [dropGood, Bool.and_eq_true, decide_eq_true_eq] at this
    rw [HL.out]
    exact ⟨this.1.1.1.1, this.1.1.1.2, this.1.1.2, this.1.2⟩)
  have HBd := Lib.hid (fun r (hr : r < N) => by
    have := HG.out
    simp only [dropGood, Bool.and_eq_true] at this
    have := allTo_iff.1 this.2 r hr
    simp only [Bool.and_eq_true, decide_eq_true_eq] at this
    exact (show (-100 ≤ othersTo (dropZ z k) r ∧ othersTo (dropZ z k) r ≤ 100) ∧ (-100 ≤ idleTo (dropZ z k r) (dropZ z k r).length ∧ idleTo (dropZ z k r) (dropZ z k r).length ≤ 100) from ⟨⟨this.1.1.1, this.1.1.2⟩, this.1.2, this.2⟩))
  go_wp2_with fail
  refine (impl_drop (N : Int) Ap L cp z (k : Int) L true _ w1 hp1 (Nat.le_refl _) (Lib.hid (by unfold dropN; rw [HO.out.1]; rfl)) (Lib.hid HO.out.1.symm)).mono ?_
  rintro e w2 ⟨Ad, cd, rfl, hd, hb2⟩
  have s2 := hb2.size
  have hb2' := hb1.trans (hb2.mono s1)
  have HDw := Lib.hid (show ∀ j, j < L → ∀ x ∈ dropZ z k j, (Lit.int .i64 x).wf = true from fun j hj => dropRow_wf (HZw.out j hj) (WalkArith.wf_i64 (by omega)))
  have hd2 : RowII w2 w2.heap.size Ad L cd (dropZ z k) := hd.rowII HDw.out
  have hp2 := (hp1.below hb2).more s2
  clear hd hp1 hb1 hb2
  obtain ⟨Rd, hRd⟩ : ∃ Rd, Rd = idles (dropZ z k) L := ⟨_, rfl⟩
  have HRd := Lib.hid hRd
  have HRl := Lib.hid (show Rd.length = L by rw [hRd]; simp [idles])
  clear hRd
  go_wp2_with fail
  refine (impl_idle Ad L cd (dropZ z k) Rd _ w2 hd2 (Nat.le_refl _) ?tot HRd).mono ?_
  case tot =>
    have hlen : ∀ j, j < L → (dropZ z k j).length ≤ 8 := fun j hj => by
      have := (left_facts (allTo_iff.1 HO.out.2.1 j hj)).1
      omega
    have ht : ∀ m, m ≤ L → total (dropZ z k) m ≤ 8 * m := by
      intro m
      induction m with
      | zero => intro _; simp [total]
      | succ m ih =>
        intro hm
        have h1 := ih (by omega)
        have h2 := hlen m (by omega)
        simp only [total]
        omega
    have := ht L (Nat.le_refl _)
    omega
  rintro e w3 ⟨Ai, ci, rfl, hi3, hb3⟩
  rw [HRl.out] at hi3 ⊢
  have s3 := hb3.size
  have hb3' := hb2'.trans (hb3.mono (by omega))
  have hd3 := (hd2.below hb3).more s3
  have hp3 := (hp2.below hb3).more s3
  clear hb3 hd2 hp2 hb2'
  go_wp2_with fail
  obtain ⟨i0, hi, hz0, hz1, hz2⟩ := info_parts info_bool
  go_loopw [9, 10, 11, 12, 13] (fun ov rv _ _ _ wr => ∃ r : Nat, r ≤ L ∧ rv = .int .i64 r ∧ ov = .int .i64 (othersTo (dropZ z k) r) ∧ Below w3.heap.size w3 wr) (fun _ rv _ _ _ _ => L - (intOf rv).toNat)
  case atStart => exact ⟨0, by omega, rfl, rfl, Below.refl _ _⟩
  case round =>
    obtain ⟨r, hr, rfl, rfl, hb⟩ := hrel
    have hbw := hb.size
    by_cases hrl : r < L
    · have h1 := hd3.below hb
      obtain ⟨b, off, rfl, _, Aj, cj, hcj, hrj⟩ := h1.at_ hrl
      have HLf := Lib.hid (left_facts (allTo_iff.1 HO.out.2.1 r hrl))
      have HBr := HBd.out r (by omega)
      have HDd := Lib.hid (show nth Rd r = idleTo (dropZ z k r) (dropZ z k r).length by rw [HRd.out, idles]; exact nth_map_range hrl)
      have HOt := Lib.hid (show othersTo (dropZ z k) (r + 1) = othersTo (dropZ z k) r + idleTo (dropZ z k r) (dropZ z k r).length - 1 from rfl)
      rw [← HDd.out] at HBr HOt
      obtain ⟨id, hid⟩ : ∃ id, id = nth Rd r := ⟨_, rfl⟩
      rw [← hid] at HBr HOt
      obtain ⟨ot, hot⟩ : ∃ ot, ot = othersTo (dropZ z k) r := ⟨_, rfl⟩
      rw [← hot] at HBr HOt ⊢
      have fi := hi3.form.2
      rcases fi with ⟨_, hbad⟩ | ⟨gi, rfl⟩
      · omega
      have hi4 := hi3.keep hb
      obtain ⟨D, hD⟩ : ∃ D, D = dropZ z k r := ⟨_, rfl⟩
      rw [← hD] at hcj hrj HLf
      rw [HLf.out.1] at hcj hrj
      obtain ⟨bj, oj, rfl, hbj, hx⟩ := hrj.at_ hk
      rw [HLf.out.2.1] at hx
      have r0 : (0 : Int) ≤ (r : Int) := by omega
      have r1 : (r : Int) < (L : Int) := by omega
      have k0 : (0 : Int) ≤ (k : Int) := by omega
      have k1 : (k : Int) < (N : Int) := by omega
      have N0 : (0 : Int) ≤ (N : Int) := by omega
      go_wp2_with (refine wpList_make_full _ rfl _ _ 47 rfl wr.heap.size 4 i0 (.bool false) 1 Try.underlying47 hi hz0 hz1 .i64 .i64 _ _ N rfl rfl rfl rfl (by rw [hz2]; omega) (by unfold maxLen; omega) (Nat.le_refl _) ?_; intro w4 hown hgrow)
      have hown1 := ownsB_made hown
      have hb4 : Below wr.heap.size wr w4 := (Below.refl _ _).grown hgrow (Nat.le_refl _) (fun k h => by cases h)
      have s4 := hb4.size
      rw [← seenB_nil] at hown1
      obtain ⟨g, hg⟩ : ∃ g, g = wr.heap.size := ⟨_, rfl⟩
      rw [← hg] at hown1
      have hgw : w3.heap.size ≤ g := by omega
      have hgw2 : g ≤ wr.heap.size := by omega
      have hb4' := hb.trans (hb4.mono hbw)
      simp only [← hg]
      clear hown hgrow hg hcj hrj hx hi4 h1 hb4
      go_wp2_with fail
      go_loopw [12, 13] (fun iv _ wq => ∃ i : Nat, i ≤ N ∧ iv = .int .i64 i ∧ OwnB wq g (.slice (some ⟨g, 0, none⟩) N N) (seenB N (D.take i)) ∧ Below w3.heap.size w3 wq) (fun iv _ _ => N - (intOf iv).toNat)
      case atStart => exact ⟨0, by omega, rfl, hown1, hb4'⟩
      case round =>
        clear hown1 hb4' s4
        obtain ⟨i, hiN, rfl, ho, hq⟩ := hrel
        have hqs := hq.size
        by_cases hil : i < N
        · have h5 := hd3.below hq
          obtain ⟨b', off', e', _, Aj2, cj2, hcj2, hrj2⟩ := h5.at_ hrl
          simp only [Option.some.injEq, Addr.mk.injEq, and_true] at e'
          obtain ⟨rfl, rfl⟩ := e'
          rw [← hD] at hcj2 hrj2
          rw [HLf.out.1] at hcj2 hrj2
          obtain ⟨bj2, oj2, rfl, hbj2, hx2⟩ := hrj2.at_ hil
          have HI := HLf.out.2.2 i hil
          obtain ⟨x, hxe⟩ : ∃ x : Nat, nth D i = (x : Int) := ⟨(nth D i).toNat, by omega⟩
          have HT := Lib.hid (show seenB N (D.take (i + 1)) = (seenB N (D.take i)).set x true by
            rw [take_succ_nth (by rw [HLf.out.1]; exact hil), ← seenB_set HI.1 HI.2.1, hxe]; rfl)
          have HN := Lib.hid (show bth (seenB N (D.take i)) x = false by
            have hxN : x < N := by omega
            rw [bth_seen hxN]
            simp only [List.contains_eq_mem, decide_eq_false_iff_not]
            intro hm
            obtain ⟨j, hj, e⟩ := List.mem_take_iff_getElem.1 hm
            have hjl : j < i := by omega
            refine HI.2.2.2 j hjl ?_
            rw [hxe, ← e, nth_eq (by rw [HLf.out.1]; omega)])
          have HK := HI.2.2.1
          have hx0 := HI.2.1
          rw [hxe] at hx2 HK hx0
          have cs := ho.cellAt (j := x) (by rw [seenB_len]; omega)
          rw [HN.out] at cs
          have fs := ho.frozenAt x
          have hos := ho.stored x true
          rw [← HT.out] at hos
          have hgg := ho.ge
          have hq7 := hq.setCell (p := ⟨g, x, none⟩) (by show w3.heap.size ≤ g; omega) (.bool true)
          have i0' : (0 : Int) ≤ (i : Int) := by omega
          have i1' : (i : Int) < (N : Int) := by omega
          have x0 : (0 : Int) ≤ (x : Int) := by omega
          have x1 : (x : Int) < (N : Int) := by omega
          have x2 : ¬ (x : Int) < 0 := by omega
          have x3 : ¬ (N : Int) ≤ (x : Int) := by omega
          clear ho hq h5 hrj2 HI hxe
          rcases (by omega : i = k ∨ ¬ i = k) with hik | hik
          · subst hik
            go_wp2
            go_roundw
            case rel => exact ⟨i + 1, by omega, by go_num, hos, hq7⟩
            case measure => simp [intOf]; omega
          · have y0 : ¬ (x : Int) = (k : Int) := HK hik
            have y1 : ((i : Int) == (k : Int)) = false := beq_eq_false_iff_ne.2 (by omega)
            have y2 : ((i : Int) != (k : Int)) = true := by simp [bne, y1]
            have y3 : ((x : Int) == (k : Int)) = false := beq_eq_false_iff_ne.2 y0
            have y4 : ¬ x = k := by omega
            have y5 : ¬ (i : Int) = (k : Int) := by omega
            go_wp2
            go_roundw
            case rel => exact ⟨i + 1, by omega, by go_num, hos, hq7⟩
            case measure => simp [intOf]; omega
        · obtain rfl : i = N := by omega
          have hci := (hi3.keep hq).cellAt (j := r) (by rw [HRl.out]; exact hrl)
          rw [← hid] at hci
          have w1 : IntKind.i64.wrap (ot + id) = ot + id := IntWalk.i64_in _ (by omega)
          have w2 : IntKind.i64.wrap (ot + id - 1) = ot + id - 1 := IntWalk.i64_in _ (by omega)
          go_wp2
          go_roundw
          case rel => exact ⟨r + 1, by omega, by go_num, by rw [HOt.out]; simp only [hot, hid], hq⟩
          case measure => simp [intOf]; omega
    · obtain rfl : r = L := by omega
      have hd4 := hd3.below hb
      have hp4 := hp3.below hb
      have hb4 := hb3'.trans (hb.mono (by omega))
      obtain ⟨M, hM⟩ : ∃ M, M = missL N (dropZ z k) r := ⟨_, rfl⟩
      have HM := Lib.hid hM
      have HMl := Lib.hid (show M.length = 2 * r by rw [hM]; exact HO.out.2.2.1)
      clear hM hb hi3
      go_wp2_with fail
      refine (impl_miss (N : Int) Ad r cd (dropZ z k) _ M wr hd4 (by omega) HM).mono ?_
      rintro e w5 ⟨Am, cm, rfl, _, hb5⟩
      rw [HMl.out]
      have s5 := hb5.size
      have hd5 := hd4.below (hb5.mono (by omega))
      have hp5 := hp4.below (hb5.mono (by omega))
      have hb5' := hb4.trans (hb5.mono (by omega))
      clear hb5 hd4 hp4 hb4
      go_wp2_with fail
      refine (at_any a0 l0 c0 z0 2 _ w5 (w0.keep fun p hp => hb5'.cell hp) hbig (by omega)).mono ?_
      rintro e w' ⟨⟨v, hv, rfl⟩, rfl⟩
      obtain ⟨hf, hhf⟩ : ∃ hf, hf = v % (r + 1) := ⟨_, rfl⟩
      have hfL : hf ≤ r := by have := Nat.mod_lt v (show r + 1 > 0 by omega); omega
      have t1 : (v : Int).tmod ((r : Int) + 1) = (hf : Int) := by rw [hhf, Int.tmod_eq_emod_of_nonneg (by omega)]; rfl
      have t2 : (((r : Int) + 1) == 0) = false := beq_eq_false_iff_ne.2 (by omega)
      have t3 : ¬ (r : Int) + 1 = 0 := by omega
      clear hhf
      have HPg := Lib.hid (show repeated N z r = 0 ∧ (missL N z r).length = 0 ∧ ∀ h, h < N → (owedL N z r (h : Nat)).length = N * (r - h) by
        have := HP.out
        simp only [planGood, Bool.and_eq_true, decide_eq_true_eq, allTo_iff] at this
        rw [HL.out]
        exact ⟨this.1.1.1, this.1.1.2, this.1.2⟩)
      obtain ⟨W, hW⟩ : ∃ W, W = owedL N z r (hf : Nat) := ⟨_, rfl⟩
      have HW := Lib.hid hW
      have hWl : W.length = N * (r - hf) := by rw [hW]; exact HPg.out.2.2 hf (by omega)
      have HWi := Lib.hid (show (N : Int) * ((r : Int) - (hf : Int)) = (W.length : Int) by rw [hWl]; push_cast [Int.ofNat_sub hfL]; rfl)
      have hW9 : W.length ≤ 100 := by
        rw [hWl]
        have := Nat.mul_le_mul (show N ≤ 8 from n8) (show r - hf ≤ 8 by omega)
        omega
      obtain ⟨wl, hwl⟩ : ∃ wl, wl = W.length := ⟨_, rfl⟩
      rw [← hwl] at HWi hW9
      have HWl := Lib.hid hwl.symm
      clear hW hWl hwl
      go_wp2_with fail
      clear t1 t2 t3
      refine (impl_owed (N : Int) Ap r cp z (hf : Int) _ W w5 hp5 (by omega) HW).mono ?_
      rintro e w6 ⟨Aw, cw, rfl, _, hb6⟩
      rw [HWl.out]
      have s6 := hb6.size
      have hd6 := hd5.below (hb6.mono (by omega))
      have hp6 := hp5.below (hb6.mono (by omega))
      have hb6' := hb5'.trans (hb6.mono (by omega))
      clear hb6 hd5 hp5 hb5'
      have e1 : ((2 : Int) * (r : Int) == 2 * ((N : Int) - 1)) = true := by rw [beq_iff_eq]; omega
      have e2 : (2 : Int) * (r : Int) = 2 * ((N : Int) - 1) := by omega
      have q1 : (((2 * r : Nat) : Int) == 2 * ((N : Int) - 1)) = true := by rw [beq_iff_eq]; omega
      go_wp2_with fail
      refine (impl_repeated (N : Int) Ad r cd (dropZ z k) _ w6 hd6).mono ?_
      rintro e w' ⟨rfl, rfl⟩
      obtain ⟨rp, hrp⟩ : ∃ rp, rp = repeated (N : Int) (dropZ z k) r := ⟨_, rfl⟩
      have HRp := Lib.hid (show rp + othersTo (dropZ z k) r = (N : Int) - 1 by rw [hrp]; exact HO.out.2.2.2)
      have HBo := (HBd.out r (by omega)).1
      rw [← hrp]
      obtain ⟨ot, hot⟩ : ∃ ot, ot = othersTo (dropZ z k) r := ⟨_, rfl⟩
      rw [← hot] at HRp HBo ⊢
      clear hrp hot
      have HR1 := HRp.out
      have HRi := Lib.hid HR1
      have u1 : IntKind.i64.wrap (rp + ot) = rp + ot := IntWalk.i64_in _ (by omega)
      have u2 : (rp + ot == (r : Int)) = true := by rw [beq_iff_eq]; omega
      have u3 : rp + ot = (r : Int) := by omega
      clear HR1
      go_wp2_with fail
      refine (impl_repeated (N : Int) Ap r cp z _ w6 hp6).mono ?_
      rintro e w' ⟨rfl, rfl⟩
      rw [HPg.out.1]
      obtain ⟨V, hV⟩ : ∃ V, V = missL N z r := ⟨_, rfl⟩
      have HV := Lib.hid hV
      have HVl := Lib.hid (show V.length = 0 by rw [hV]; exact HPg.out.2.1)
      clear hV
      go_wp2_with fail
      refine (impl_miss (N : Int) Ap r cp z _ V w6 hp6 (by omega) HV).mono ?_
      rintro e w7 ⟨Av, cv, rfl, _, hb7⟩
      rw [HVl.out]
      have hp7 := hp6.below (hb7.mono (by omega))
      have s7 := hb7.size
      have hb7' := hb6'.trans (hb7.mono (by omega))
      clear hb7 hp6 hb6' hd6
      obtain ⟨U, hU⟩ : ∃ U, U = owedL N z r (r : Int) := ⟨_, rfl⟩
      have HU := Lib.hid hU
      have HUl := Lib.hid (show U.length = 0 by rw [hU, HPg.out.2.2 r (by omega)]; simp)
      clear hU
      have p1 := HWi.out
      have p2 : IntKind.i64.wrap ((N : Int) * ((r : Int) - (hf : Int))) = (wl : Int) := by rw [p1]; exact IntWalk.i64_in _ (by omega)
      go_wp2_with fail
      refine (impl_owed (N : Int) Ap r cp z (r : Int) _ U w7 hp7 (by omega) HU).mono ?_
      rintro e w8 ⟨Au, cu, rfl, _, hb8⟩
      rw [HUl.out]
      have hb8' := hb7'.trans (hb8.mono (by omega))
      clear hb8
      go_wp2
      go_ret
      exact ⟨rfl, hb8'⟩

set_option maxRecDepth 100000 in
theorem lifted (os : Os) (started : os.Started) (H : Type) (enc : TypeId × Value → H) :
    ReturnsInHanded {} Try.checked os 15 .any (Rows.fnDroppingSpec.pre6 enc Try.prog Try.f15 Rows.fnDroppingRow.domain false) (Rows.fnDroppingSpec.post enc Try.prog Try.f15 false true false false) := by
  refine returnsInHanded_of_change (C := Try.checked) own started (by kernel_rfl) Try.func15
    (ChangeSpec.witness6 (enc := enc) (C := Try.checked) false ⟨#[], #[.slice none 0 0], []⟩ 8 (by kernel_rfl) (by kernel_rfl) (by kernel_rfl) (by kernel_rfl)) ?_
  intro W base args ds gs before hval0 hW hcnd _
  have hval : ∀ (j : Nat) t v, Try.f15.params[j]? = some t → args[j]? = some v → Value.okWide Try.prog W .any base t v := hval0
  have hW' := hW
  obtain ⟨p, q, hA0, hV, rfl, hfz, hnd⟩ := hW
  have hA : DataW.TrodAll enc Try.prog W 0 (fun _ => true) true Try.f15.params.toList args.toList ds p := hA0
  rw [Try.params15] at hA hval
  obtain ⟨v0, vs0, d0, ds0, p0, q0, hargs, rfl, rfl, h0, r0⟩ := trodAll_cons hA
  obtain ⟨rfl, rfl, rfl⟩ := trodAll_nil r0
  obtain rfl : args = #[v0] := by cases args; simp_all
  obtain ⟨rfl, rfl⟩ := trodVars_none hV
  have k0 := h0
  have lt0 : ∀ x ∈ p0, x.block < W.heap.size := by obtain ⟨m, hm⟩ := k0; exact DataW.trod_lt m _ _ _ hm
  obtain ⟨a0, l0, c0, rfl⟩ := okWide_slice Try.underlying41 (hval 0 41 v0 rfl rfl)
  obtain ⟨z0, w0⟩ := open_rowI Try.underlying41 Try.underlying5 (by kernel_rfl) (h0)
  clear hA0 hval0
  refine (walk a0 l0 c0 z0 W w0).mono fun e W' ⟨he, bel⟩ => ?_
  subst he
  exact ⟨_, rfl, _, _, _, [], _, [], hW', trodAll_mk1 (shut_bool Try.underlying4 _), (trodAll_cons_mk (Below.trod laidOut (by kernel_rfl) (of_decide_eq_true (by kernel_rfl)) k0 bel lt0) trodAll_mk0), rfl, bel.frame _, fun h => by cases h⟩

theorem over : Rows.fnDroppingRow.holds Try.pinned (OpenSpec.ofChange Rows.fnDroppingSpec) :=
  OpenClaim.holds_of_wide 15 Try.f15 rfl rfl rfl rfl rfl rfl rfl ⟨rfl, rfl, rfl, rfl, rfl⟩ rfl rfl rfl rfl rfl (by kernel_rfl) Try.func15 (by kernel_rfl)
    (of_decide_eq_true (by kernel_rfl)) (by unfold Func.isWrapper; first | (rw [if_pos (by decide +kernel)]; kernel_rfl) | (rw [if_neg (by decide +kernel)]; exact ⟨rfl, rfl⟩))
    (fun os started H enc _ => lifted os started H enc)

/-- The statement. -/
theorem proved : Rows.FnDroppingSaid := over
#print axioms proved
end Go.Proofs.Ytkglgbdiakinlaa.fnDropping
