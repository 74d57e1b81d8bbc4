/- Contracts of DropMember. -/
import Derived.Test.YtkglgbdiakinlaaCopy
import Derived.Test.YtkglgbdiakinlaaRound
import Derived.Test.YtkglgbdiakinlaaPureV
namespace Go.Proofs.Ytkglgbdiakinlaa
open Go.ChangeShapes Go.WideShapes Go.ChangeAt Go.RowKit
theorem grown_step {w wr : World} {g : Nat} (hg : w.grownBy wr (some g)) (j : Nat) (x : Value) : w.grownBy (wr.setCell ⟨g, j, none⟩ x) (some g) :=
  ⟨hg.os, hg.tape, hg.output, by simpa [World.setCell] using hg.size, fun i hi hne => (Below.heap_setCell wr ⟨g, j, none⟩ _ i (by intro e; exact hne (by rw [e]))).trans (hg.block i hi hne)⟩
theorem OwnI.some_ {w : World} {base n c : Nat} {A : Option Addr} {zs : List Int} (h : OwnI w base (.slice A n c) zs) (hn : 0 < n) : ∃ g, A = some ⟨g, 0, none⟩ := by
  rcases h.form.2 with ⟨_, h2⟩ | h2
  · omega
  · exact h2
set_option maxHeartbeats 8000000 in
theorem impl_drop (n : Int) (A : Option Addr) (l c : Nat) (z : Nat → List Int) (K : Int) (M : Nat) (b : Bool) (B : Nat) (w : World) (h : RowII w B A l c z) (hB : B ≤ w.heap.size) (hM : Hid (M = dropN n z l K)) (hb : Hid (b = dropOk n z l K)) :
    Calls Try.prog 45 #[.int .i64 n, .slice A l c, .int .i64 K] w fun e w' => ∃ A2 c2, e = .returned (.tuple #[.slice A2 M c2, .bool b]) ∧ OwnII w' w.heap.size w'.heap.size (.slice A2 M c2) M (dropZ z K) ∧ Below w.heap.size w w' := by
  have hcap := h.cap
  unfold maxLen at hcap
  rcases Bool.eq_false_or_eq_true (roundsOk n z l) with hO | hO
  · have hP := rounds_of hO
    have l9 := hP.l9
    have n1 := hP.n1
    have n9 := hP.n9
    rcases inB_or K 0 (n - 1) with ⟨hI, k0, kn⟩ | hI
    · have HM := Lib.hid (show M = l by rw [hM.out]; unfold dropN dropOk; rw [hO, hI]; rfl)
      have HB := Lib.hid (show b = true by rw [hb.out]; unfold dropOk; rw [hO, hI]; rfl)
      obtain ⟨Kn, rfl⟩ : ∃ Kn : Nat, K = Kn := ⟨K.toNat, by omega⟩
      rw [HM.out, HB.out]
      clear HM HB hM hb
      go_enter Try.func45, Try.ntmps45
      go_wp2_with fail
      refine (impl_rounds n A l c z B _ h hB).mono ?_
      rintro e w1 ⟨rfl, hb1⟩
      rw [hO]
      have h2 : RowII w1 B A l c z := h.keep fun p hp => hb1.cell (by omega)
      have hz1 := hb1.size
      have HWf := Lib.hid (fun i (hi : i < l) => rowII_wf h hi)
      clear hO h
      go_wp2_with (go_at_call 51; refine (within_any _ _ _ _).mono ?_; rintro e w' ⟨rfl, rfl⟩)
      clear hI
      refine (copyRows_any A l c z B _ h2 (by omega) (by omega) (fun j hj => by have := hP.len j hj; omega)).mono ?_
      rintro e w2 ⟨A2, c2, rfl, ho2, hb2⟩
      have hz2 := hb2.size
      have hb3 := hb1.trans (hb2.mono hz1)
      clear h2 hb1 hb2
      have ho3 : OwnII w2 w1.heap.size w2.heap.size (.slice A2 l c2) l (dropped z Kn 0) := ho2.congr fun i _ => (if_neg (by omega)).symm
      clear ho2
      go_wp2_with fail
      go_loopw [10, 11, 27] (fun _ _ i wr => ∃ r : Nat, r ≤ l ∧ i = .int .i64 r ∧ OwnII wr w1.heap.size w2.heap.size (.slice A2 l c2) l (dropped z Kn r) ∧ Below w.heap.size w wr ∧ Hid (w2.heap.size = wr.heap.size)) (fun _ _ i _ => l - (intOf i).toNat)
      case atStart => exact ⟨0, by omega, rfl, ho3, hb3, Lib.hid rfl⟩
      case round =>
        clear ho3 hb3
        obtain ⟨r, hr, rfl, hown, hb, hsz⟩ := hrel
        by_cases hlt : r < l
        · obtain ⟨g, Ai, ci, hA, hg1, hg2, hg3, hcell, hfr, ho, hbl, hstep⟩ := hown.at_ hlt
          have hD : dropped z Kn r r = z r := if_neg (by omega)
          rw [hD] at hcell ho hstep
          obtain ⟨m, hm, hme, hmu, hmi⟩ := sender hP hlt k0 kn
          have hlen := hP.len r hlt
          have hKl : Kn < (z r).length := by omega
          obtain ⟨g', rfl⟩ := ho.some_ (by omega)
          have hr1 := ho.rowI (HWf.out r hlt)
          have hgb := ho.ge
          have hf1 := ho.frozenAt m
          have hf2 := ho.frozenAt Kn
          have hc2 := ho.cellAt hKl
          have hc1 := ho.cellAt hm
          have hc3 := (ho.stored m (nth (z r) Kn)).cellAt (j := Kn) (by rw [List.length_set]; exact hKl)
          have hf3 := (ho.stored m (nth (z r) Kn)).frozenAt Kn
          have ho2 := (ho.stored m (nth (z r) Kn)).stored Kn (Kn : Int)
          have hgr : wr.grownBy ((wr.setCell ⟨g', m, none⟩ (.int .i64 (nth (z r) Kn))).setCell ⟨g', Kn, none⟩ (.int .i64 (Kn : Int))) (some g') := grown_step (grown_step (World.grownBy.refl _ _) m _) Kn _
          have hown2 := hstep _ _ hgr ho2
          have hE : ((z r).set m (nth (z r) Kn)).set Kn (Kn : Int) = dropRow (z r) Kn := by unfold dropRow; rw [hmi, Int.toNat_natCast, Int.toNat_natCast]
          rw [hE] at hown2
          have hown3 := hown2.congr fun i _ => dropped_upd z Kn r i
          have hb4 := (hb.setCell (p := ⟨g', m, none⟩) (by show w.heap.size ≤ g'; omega) (.int .i64 (nth (z r) Kn))).setCell (p := ⟨g', Kn, none⟩) (by show w.heap.size ≤ g'; omega) (.int .i64 (Kn : Int))
          have HMi := Lib.hid hmi
          have HH := Lib.hid hA
          have m0 : (0 : Int) ≤ (m : Int) := by omega
          have m3 : (m : Int) < ((z r).length : Int) := by omega
          have K0 : (0 : Int) ≤ (Kn : Int) := by omega
          have K3 : (Kn : Int) < ((z r).length : Int) := by omega
          have r0 : (0 : Int) ≤ (r : Int) := by omega
          have r3 : (r : Int) < (l : Int) := by omega
          subst hA
          clear hD hE hmi hme hmu hlen hstep hown hown2 ho ho2 hgr hbl HH
          go_wp2_with fail
          refine (index_any (some ⟨g', 0, none⟩) (z r).length ci (z r) Kn _ _ hr1).mono ?_
          rintro e w' ⟨rfl, rfl⟩
          rw [HMi.out]
          clear hr1
          go_wp2
          go_roundw
          case rel => exact ⟨r + 1, by omega, by go_num, hown3, hb4, Lib.hid (by simpa [World.setCell] using hsz.out)⟩
          case measure => simp [intOf]; omega
        · have hE : r = l := by omega
          have hown2 : OwnII wr w.heap.size wr.heap.size (.slice A2 l c2) l (dropZ z Kn) := by
            have := (hown.congr (z' := dropZ z Kn) fun i hi => by unfold dropped dropZ; rw [if_pos (by omega)]).down hz1
            rw [hsz.out] at this
            exact this
          have r3 : ¬ (r : Int) < (l : Int) := by omega
          clear hown hE
          go_wp2
          go_ret2
          exact ⟨A2, c2, rfl, hown2, hb⟩
    · have HM := Lib.hid (show M = 0 by rw [hM.out]; unfold dropN dropOk; rw [hI, Bool.and_false]; rfl)
      have HB := Lib.hid (show b = false by rw [hb.out]; unfold dropOk; rw [hI, Bool.and_false])
      rw [HM.out, HB.out]
      go_enter Try.func45, Try.ntmps45
      go_wp2_with fail
      refine (impl_rounds n A l c z B _ h hB).mono ?_
      rintro e w1 ⟨rfl, hb1⟩
      rw [hO]
      clear hO
      go_wp2_with (go_at_call 51; refine (within_any _ _ _ _).mono ?_; rintro e w' ⟨rfl, rfl⟩)
      go_ret2
      exact ⟨none, 0, rfl, ownII_nil _ _ _ _, hb1⟩
  · have HM := Lib.hid (show M = 0 by rw [hM.out]; unfold dropN dropOk; rw [hO]; rfl)
    have HB := Lib.hid (show b = false by rw [hb.out]; unfold dropOk; rw [hO]; rfl)
    rw [HM.out, HB.out]
    go_enter Try.func45, Try.ntmps45
    go_wp2_with fail
    refine (impl_rounds n A l c z B _ h hB).mono ?_
    rintro e w1 ⟨rfl, hb1⟩
    rw [hO]
    clear hO
    go_wp2
    go_ret2
    exact ⟨none, 0, rfl, ownII_nil _ _ _ _, hb1⟩
set_option maxHeartbeats 8000000 in
theorem spec_drop (n : Int) (A : Option Addr) (l c : Nat) (z : Nat → List Int) (K : Int) (M : Nat) (b : Bool) (B : Nat) (w : World) (h : RowII w B A l c z) (hB : B ≤ w.heap.size) (hM : Hid (M = dropN n z l K)) (hb : Hid (b = dropOk n z l K)) :
    Calls Try.prog 44 #[.int .i64 n, .slice A l c, .int .i64 K] w fun e w' => ∃ A2 c2, e = .returned (.tuple #[.slice A2 M c2, .bool b]) ∧ OwnII w' w.heap.size w'.heap.size (.slice A2 M c2) M (dropZ z K) ∧ Below w.heap.size w w' := by
  have hcap := h.cap
  unfold maxLen at hcap
  have he0 : Below w.heap.size w (w.alloc (.cells #[] 27)) := (Below.refl _ _).alloc (Nat.le_refl _) _
  have h0 : RowII (w.alloc (.cells #[] 27)) B A l c z := h.keep fun p hp => he0.cell (by omega)
  rcases Bool.eq_false_or_eq_true (roundsOk n z l) with hO | hO
  · have hP := rounds_of hO
    have l9 := hP.l9
    have n1 := hP.n1
    have n9 := hP.n9
    obtain ⟨N, rfl⟩ : ∃ N : Nat, n = N := ⟨n.toNat, by omega⟩
    rcases inB_or K 0 ((N : Int) - 1) with ⟨hI, k0, kn⟩ | hI
    · have HM := Lib.hid (show M = l by rw [hM.out]; unfold dropN dropOk; rw [hO, hI]; rfl)
      have HB := Lib.hid (show b = true by rw [hb.out]; unfold dropOk; rw [hO, hI]; rfl)
      obtain ⟨Kn, rfl⟩ : ∃ Kn : Nat, K = Kn := ⟨K.toNat, by omega⟩
      rw [HM.out, HB.out]
      clear HM HB hM hb
      go_enter Try.func44, Try.ntmps44
      go_wp2_with fail
      refine (spec_rounds N A l c z B _ h0 (by simp; omega)).mono ?_
      rintro e w1 ⟨rfl, hb1⟩
      rw [hO]
      have ho1 := (ownII_empty w (dropZ z Kn)).keep hb1
      have hz1 : w.heap.size + 1 ≤ w1.heap.size := by have := hb1.size; simp at this; omega
      have hb2 := he0.trans (hb1.mono (by simp))
      clear hO h0 he0 hb1
      go_wp2_with (go_at_call 50; refine (l01In_any _ _ _ _).mono ?_; rintro e w' ⟨rfl, rfl⟩)
      clear hI
      go_loopw [8, 9, 10, 11] (fun v i _ _ wr => ∃ r : Nat, r ≤ l ∧ i = .int .i64 r ∧ OwnII wr w.heap.size wr.heap.size v r (dropZ z Kn) ∧ Below w.heap.size w wr) (fun _ i _ _ _ => l - (intOf i).toNat)
      case atStart => exact ⟨0, by omega, rfl, ho1.more (by omega), hb2⟩
      case round =>
        clear ho1 hb2
        obtain ⟨r, hr, rfl, hown, hb⟩ := hrel
        have hbw := hb.size
        by_cases hlt : r < l
        · have h2 : RowII wr B A l c z := h.keep fun p hp => hb.cell (by omega)
          obtain ⟨b, off, rfl, hbB, Aj, cj, hcj, hrj⟩ := h2.at_ hlt
          obtain ⟨m, hm, hme, hmu, hmi⟩ := sender hP hlt k0 kn
          have hlen := hP.len r hlt
          have hlr : (z r).length = N := by omega
          rw [hlr] at hcj hrj hm hmu
          have HLr := Lib.hid hlr
          have HMe := Lib.hid hme
          have HMu := Lib.hid hmu
          have HMi := Lib.hid hmi
          have hN : 0 < N := by omega
          have r0 : (0 : Int) ≤ (r : Int) := by omega
          have r3 : (r : Int) < (l : Int) := by omega
          obtain ⟨bj, oj, rfl, hbj, hxs⟩ := hrj.2.2.2.2 hN
          clear hlen hlr hme hmu hmi hxs h2
          have hrj2 : RowI .i64 (wr.alloc (.cells #[] 3)) B (some ⟨bj, oj, none⟩) N cj (z r) := hrj.keep fun p hp => ((Below.refl _ _).alloc (Nat.le_refl _) _).cell (by omega)
          have hcj2 : (wr.alloc (.cells #[] 3)).cell? ⟨b, off + r, none⟩ = some (.slice (some ⟨bj, oj, none⟩) N cj) := (((Below.refl _ _).alloc (Nat.le_refl _) _).cell (p := ⟨b, off + r, none⟩) (by show b < wr.heap.size; omega)).trans hcj
          go_wp2_with (at_builtin; refine app_list rfl _ _ rfl wr.heap.size _ [] ⟨bj, oj, none⟩ N cj B (z r) rfl (own_empty wr) rfl hrj2 hN (by simp; omega) (by simp) ?_; intro A4 c4 w4 ho4 hb4)
          have hb5 := ((Below.refl _ wr).alloc (Nat.le_refl _) (.cells #[] 3)).trans hb4
          rw [List.nil_append, show ([] : List Int).length + N = N by simp] at ho4
          clear hb4 hrj2 hcj2
          obtain ⟨g, rfl⟩ := ho4.some_ hN
          have hg4 := ho4.ge
          have HA0 := Lib.hid (show dropAt (z r) Kn m 0 = z r from if_neg (by omega))
          obtain ⟨wo, hwo⟩ : ∃ wo : World, wo = wr := ⟨_, rfl⟩
          rw [← hwo] at hb5 ho4 hown hg4
          have HWo := Lib.hid hwo
          rw [← hwo] at hb hbw
          clear hwo
          go_wp2_with fail
          go_loopw [11] (fun i wr => ∃ k : Nat, k ≤ N ∧ i = .int .i64 k ∧ OwnI wr wo.heap.size (.slice (some ⟨g, 0, none⟩) N c4) (dropAt (z r) Kn m k) ∧ Below wo.heap.size wo wr) (fun i _ => N - (intOf i).toNat)
          case atStart => exact ⟨0, by omega, rfl, by rw [HA0.out]; exact ho4, hb5⟩
          case round =>
            clear ho4 hb5 hcj hrj
            obtain ⟨k, hk, rfl, hrow, hb5⟩ := hrel
            have hb6 := hb.trans (hb5.mono hbw)
            have hbw6 := hb6.size
            have h2 : RowII _ B (some ⟨b, off, none⟩) l c z := h.keep fun p hp => hb6.cell (by omega)
            obtain ⟨b', off', e', _, Aj', cj', hcj, hrj⟩ := h2.at_ hlt
            simp only [Option.some.injEq, Addr.mk.injEq, and_true] at e'
            obtain ⟨rfl, rfl⟩ := e'
            rw [HLr.out] at hcj hrj
            obtain ⟨bj', oj', rfl, hbj', hxs⟩ := hrj.2.2.2.2 hN
            have hKN : Kn < N := by omega
            have hxK := hxs Kn hKN
            have K0 : (0 : Int) ≤ (Kn : Int) := by omega
            have K3 : (Kn : Int) < (N : Int) := by omega
            clear h2
            by_cases hkl : k < N
            · have hxk := hxs k hkl
              clear hxs
              have i0 : (0 : Int) ≤ (k : Int) := by omega
              have i3 : (k : Int) < (N : Int) := by omega
              by_cases hkm : k = m
              · have d : (nth (z r) k == (Kn : Int)) = true := by rw [hkm]; exact beq_iff_eq.2 HMe.out
                have hf := hrow.frozenAt k
                have hq := hrow.cellAt (j := k) (by rw [dropAt_len, HLr.out]; exact hkl)
                have hrow2 := hrow.stored k (nth (z r) Kn)
                have hE : (dropAt (z r) Kn m k).set k (nth (z r) Kn) = dropAt (z r) Kn m (k + 1) := by unfold dropAt; rw [if_neg (by omega), if_pos (by omega), hkm]
                rw [hE] at hrow2
                have hb7 := hb5.setCell (p := ⟨g, k, none⟩) hg4.1 (.int .i64 (nth (z r) Kn))
                clear hE hkm hrow
                go_wp2
                go_roundw
                case rel => exact ⟨k + 1, by omega, by go_num, hrow2, hb7⟩
                case measure => simp [intOf]; omega
              · have d : (nth (z r) k == (Kn : Int)) = false := beq_eq_false_iff_ne.2 fun e => hkm (HMu.out k hkl e)
                have hE : dropAt (z r) Kn m k = dropAt (z r) Kn m (k + 1) := by unfold dropAt; by_cases q : m < k; rw [if_pos q, if_pos (by omega)]; rw [if_neg q, if_neg (by omega)]
                rw [hE] at hrow
                clear hE hkm
                go_wp2
                go_roundw
                case rel => exact ⟨k + 1, by omega, by go_num, hrow, hb5⟩
                case measure => simp [intOf]; omega
            · have hf := hrow.frozenAt Kn
              have hq := hrow.cellAt (j := Kn) (by rw [dropAt_len, HLr.out]; exact hKN)
              have hrow2 := hrow.stored Kn (Kn : Int)
              have hE : (dropAt (z r) Kn m k).set Kn (Kn : Int) = dropZ z Kn r := by unfold dropAt dropZ dropRow; rw [if_pos (by omega), HMi.out, Int.toNat_natCast, Int.toNat_natCast]
              rw [hE] at hrow2
              have hb7 := hb5.setCell (p := ⟨g, Kn, none⟩) hg4.1 (.int .i64 (Kn : Int))
              have hown2 := hown.keep hb7
              have hb8 := hb.trans (hb7.mono hbw)
              have hbw8 := hb7.size
              have k3 : ¬ (k : Int) < (N : Int) := by omega
              clear hE hrow hxs hown
              go_wp2_with (at_builtin; (refine appII_plain rfl _ _ rfl w.heap.size wo.heap.size r _ _ (dropZ z Kn) wr.heap.size rfl (ownII_alloc hown2 _) (hrow2.alloc _) hbw rfl (by simpa using heap_alloc_new (wr.setCell ⟨g, Kn, none⟩ (.int .i64 Kn)) _) (by omega) (by simp; omega) ?_); intro v6 w6 ho6 hb9)
              have hb10 := (hb8.alloc (by omega) _).trans hb9
              clear hb9 hb8 hb7 hown2 hrow2
              go_wp2
              go_roundw
              case rel => exact ⟨r + 1, by omega, by go_num, ho6, hb10⟩
              case measure => simp [intOf]; omega
        · obtain rfl : r = l := by omega
          have r3 : ¬ (r : Int) < (r : Int) := by omega
          obtain ⟨A2, c2, hv⟩ := hown.shape
          have HV := Lib.hid hv
          clear hv
          go_wp2
          go_ret2
          rw [HV.out] at hown
          exact ⟨A2, c2, by rw [HV.out]; rfl, hown, hb⟩
    · have HM := Lib.hid (show M = 0 by rw [hM.out]; unfold dropN dropOk; rw [hI, Bool.and_false]; rfl)
      have HB := Lib.hid (show b = false by rw [hb.out]; unfold dropOk; rw [hI, Bool.and_false])
      rw [HM.out, HB.out]
      go_enter Try.func44, Try.ntmps44
      go_wp2_with fail
      refine (spec_rounds N A l c z B _ h0 (by simp; omega)).mono ?_
      rintro e w1 ⟨rfl, hb1⟩
      rw [hO]
      have ho1 := (ownII_empty w (dropZ z K)).keep hb1
      have hb2 := he0.trans (hb1.mono (by simp))
      have hz1 := hb2.size
      have hz2 := hb1.size
      clear hO hb1
      go_wp2_with (go_at_call 50; refine (l01In_any _ _ _ _).mono ?_; rintro e w' ⟨rfl, rfl⟩)
      go_ret2
      exact ⟨_, _, rfl, ho1.more (by simp at hz2; omega), hb2⟩
  · have HM := Lib.hid (show M = 0 by rw [hM.out]; unfold dropN dropOk; rw [hO]; rfl)
    have HB := Lib.hid (show b = false by rw [hb.out]; unfold dropOk; rw [hO]; rfl)
    rw [HM.out, HB.out]
    go_enter Try.func44, Try.ntmps44
    go_wp2_with fail
    refine (spec_rounds n A l c z B _ h0 (by simp; omega)).mono ?_
    rintro e w1 ⟨rfl, hb1⟩
    rw [hO]
    have ho1 := (ownII_empty w (dropZ z K)).keep hb1
    have hb2 := he0.trans (hb1.mono (by simp))
    have hz2 := hb1.size
    clear hO hb1
    go_wp2
    go_ret2
    exact ⟨_, _, rfl, ho1.more (by simp at hz2; omega), hb2⟩
end Go.Proofs.Ytkglgbdiakinlaa
