/- Contracts of LateMembers: the program's and the reference's. -/
import Derived.Test.YthfhbcgnninlkaaGrace
namespace Go.Proofs.Ythfhbcgnninlkaa
open Go.ChangeShapes Go.WideShapes Go.ChangeAt Go.RowKit
def lateFl (f : Nat → Nat → Int) (a d t : Int) (k : Nat) : List Bool := (List.range 10).map fun v => isLate f a d t v k
theorem lateFl_len (f : Nat → Nat → Int) (a d t : Int) (k : Nat) : (lateFl f a d t k).length = 10 := by simp [lateFl]
theorem lateFl_zero (f : Nat → Nat → Int) (a d t : Int) : lateFl f a d t 0 = List.replicate 10 false := rfl
theorem bth_lateFl {f : Nat → Nat → Int} {a d t : Int} {k v : Nat} (h : v < 10) : bth (lateFl f a d t k) v = isLate f a d t v k := by simp [bth, lateFl, List.getD, h]
theorem lateFl_set {f : Nat → Nat → Int} {a d t : Int} {k v : Nat} (h1 : 0 < lateAt f a d t k) (hv : f k 1 = v) : (lateFl f a d t k).set v true = lateFl f a d t (k + 1) := by
  apply List.ext_getElem
  · simp [lateFl]
  · intro i h2 h3
    rw [List.getElem_set]
    simp only [lateFl, List.getElem_map, List.getElem_range]
    show _ = (isLate f a d t i k || (decide (0 < lateAt f a d t k) && (f k 1 == (i : Int))))
    rw [decide_eq_true h1, Bool.true_and, hv]
    by_cases e : v = i
    · subst e; simp
    · have : ((v : Int) == (i : Int)) = false := by simp; omega
      rw [if_neg e, this, Bool.or_false]
theorem lateFl_skip {f : Nat → Nat → Int} {a d t : Int} {k : Nat} (h1 : lateAt f a d t k ≤ 0) : lateFl f a d t (k + 1) = lateFl f a d t k := by
  unfold lateFl
  apply List.map_congr_left
  intro v _
  show (isLate f a d t v k || (decide (0 < lateAt f a d t k) && (f k 1 == (v : Int)))) = _
  rw [decide_eq_false (by omega), Bool.false_and, Bool.or_false]
set_option maxHeartbeats 4000000 in
theorem impl_lateM (A : Option Addr) (n c : Nat) (f : Nat → Nat → Int) (a d t : Int) (L : List Int) (B : Nat) (w : World) (h : RowP 4 w B A n c f) (hB : B ≤ w.heap.size) (hn : n ≤ 1048576) (hL : Hid (L = lateMembs f a d t n)) :
    Calls Try.prog 45 #[.slice A n c, .int .i64 a, .int .i64 d, .int .i64 t] w fun e w' => ∃ A2 c2, e = .returned (.slice A2 L.length c2) ∧ OwnI w' w.heap.size (.slice A2 L.length c2) L ∧ Below w.heap.size w w' := by
  obtain ⟨R, hR⟩ : ∃ R, R = if lateOk f a d t n then lates f a d t n else [] := ⟨_, rfl⟩
  obtain ⟨g, hg⟩ : ∃ g, g = graceOk f a d t n := ⟨_, rfl⟩
  have HR := Lib.hid hR
  have HG := Lib.hid hg
  have hcap := h.cap
  unfold maxLen at hcap
  clear hR hg
  cases g
  · have HE := Lib.hid (show L = [] by rw [hL.out]; unfold lateMembs; rw [← HG.out]; rfl)
    go_enter Try.func45, Try.ntmps45
    go_wp2_with fail
    refine (lateness_any A n c f a d t R false B _ h hB hn HR HG).mono ?_
    rintro e w1 ⟨A2, c2, rfl, ho1, hb1⟩
    go_wp2
    go_ret
    rw [HE.out]
    exact ⟨none, 0, rfl, own_nil _ _, hb1⟩
  · have HE := Lib.hid (show L = lateMs f a d t n by rw [hL.out]; unfold lateMembs; rw [← HG.out]; rfl)
    have HO := Lib.hid (show lateOk f a d t n = true by have := HG.out.symm; unfold graceOk at this; exact (Bool.and_eq_true_iff.1 this).2)
    have HRl := Lib.hid (show R = lates f a d t n by rw [HR.out, HO.out]; rfl)
    have HLn := Lib.hid (show R.length = n by rw [HRl.out, lates_len])
    go_enter Try.func45, Try.ntmps45
    go_wp2_with fail
    refine (lateness_any A n c f a d t R true B _ h hB hn HR HG).mono ?_
    rintro e w1 ⟨A2, c2, rfl, ho1, hb1⟩
    rw [HLn.out] at ho1 ⊢
    have hr1 := ho1.rowI (by rw [HRl.out]; exact lates_wf f a d t n)
    have h1 : RowP 4 w1 B A n c f := h.keep fun p hp => hb1.cell (by omega)
    have hz1 := hb1.size
    clear ho1 h
    go_wp2_with fail
    go_loopw [11, 12, 13, 27] (fun v _ _ i wr => ∃ (k : Nat) (A4 : Option Addr) (m c4 : Nat), k ≤ n ∧ m ≤ 10 ∧ i = .int .i64 k ∧ v = .slice A4 m c4 ∧ OwnI wr w1.heap.size (.slice A4 m c4) (lateMs f a d t k) ∧ Below w1.heap.size w1 wr) (fun _ _ _ i _ => n - (intOf i).toNat)
    case atStart => exact ⟨0, _, 0, _, by omega, by omega, rfl, rfl, own_empty w1, (Below.refl _ _).alloc (Nat.le_refl _) _⟩
    case round =>
      obtain ⟨k, A4, m, c4, hk, hm, rfl, rfl, hown, hb⟩ := hrel
      have hbw := hb.size
      by_cases hlt : k < n
      · have hr2 : RowI .i64 wr w1.heap.size A2 n c2 R := hr1.keep fun p hp => hb.cell (by omega)
        have h2 : RowP 4 wr B A n c f := h1.keep fun p hp => hb.cell (by omega)
        have hq0 : 0 ≤ lateAt f a d t k := of_decide_eq_true (allTo_iff.1 HO.out k hlt)
        have hfr := lateAt_from hq0
        obtain ⟨v, hv⟩ : ∃ v : Nat, f k 1 = v := ⟨(f k 1).toNat, by omega⟩
        have hv10 : v < 10 := by omega
        have hx0 : nth R k = lateAt f a d t k := by rw [HRl.out, nth_lates f a d t hlt]
        obtain ⟨q, hq⟩ : ∃ q, q = lateAt f a d t k := ⟨_, rfl⟩
        rw [← hq] at hx0 hq0
        have hqb := lateAt_bd f a d t k
        rw [← hq] at hqb
        obtain ⟨b2, off2, rfl, hbB2, hc2⟩ := hr2.at_ hlt
        rw [hx0] at hc2
        obtain ⟨b, off, rfl, hbB, hc⟩ := h2.at_ hlt
        have x1 : wr.cell? ⟨b, off + k * 4 + 1, none⟩ = some (.int .i64 (v : Int)) := by rw [Nat.add_assoc, ← hv]; exact hc 1 (by omega)
        have k0 : (0 : Int) ≤ (k : Int) := by omega
        have k3 : (k : Int) < (n : Int) := by omega
        have hro := hown.rowI (membs_wf (by omega))
        have hh := idxOf_has (lateMs f a d t k) v
        rw [show (lateMs f a d t k).contains (v : Int) = isLate f a d t v k from membs_has hv10] at hh
        have HH := Lib.hid hh
        have HV := Lib.hid hv
        have HQ := Lib.hid hq
        clear hx0 hc h2 hr2 hh hv hq hfr
        rcases (by omega : q ≤ 0 ∨ 0 < q) with hq1 | hq1
        · have HS := Lib.hid (lateMs_skip (f := f) (a := a) (c := d) (t := t) (k := k) (by rw [← HQ.out]; exact hq1))
          rw [← HS.out] at hown
          clear hro
          go_wp2
          go_roundw
          case rel => exact ⟨k + 1, A4, m, c4, by omega, by omega, by go_num, rfl, hown, hb⟩
          case measure => simp [intOf]; omega
        · rcases Bool.eq_false_or_eq_true (isLate f a d t v k) with s | s
          · have HS := Lib.hid (lateMs_same (f := f) (a := a) (c := d) (t := t) (k := k) (v := v) (.inr s) HV.out)
            have e6 : 0 ≤ idxOf (lateMs f a d t k) v := by
              have := HH.out
              rw [s] at this
              have := of_decide_eq_false this
              omega
            rw [← HS.out] at hown
            clear s
            go_wp2_with (go_at_call 70; refine (index_any A4 m c4 (lateMs f a d t k) v wr.heap.size _ hro).mono ?_; rintro e w' ⟨rfl, rfl⟩)
            go_roundw
            case rel => exact ⟨k + 1, A4, m, c4, by omega, by omega, by go_num, rfl, hown, hb⟩
            case measure => simp [intOf]; omega
          · have HS := Lib.hid (lateMs_new (f := f) (a := a) (c := d) (t := t) (k := k) (v := v) (by rw [← HQ.out]; exact hq1) HV.out hv10 s)
            have e6 : idxOf (lateMs f a d t k) v < 0 := by
              have := HH.out
              rw [s] at this
              exact of_decide_eq_true this
            clear s
            go_wp2_with (go_at_call 70; refine (index_any A4 m c4 (lateMs f a d t k) v wr.heap.size _ hro).mono ?_; rintro e w' ⟨rfl, rfl⟩)
            refine (put_any A4 m c4 (lateMs f a d t k) v wr.heap.size _ hro (Nat.le_refl _) (by omega)).mono ?_
            rintro e w4 ⟨A6, c6, rfl, ho4, hb4⟩
            rw [← HS.out] at ho4
            have ho5 : OwnI w4 w1.heap.size (.slice A6 (m + 1) c6) (lateMs f a d t (k + 1)) := ho4.base hbw
            have hb5 := hb.trans (hb4.mono hbw)
            have hm2 : m + 1 ≤ 10 := by have := ho5.form.1; have := membs_len (fun v => isLate f a d t v (k + 1)) 10; unfold lateMs at *; omega
            clear ho4 hb4 hown hro hb
            go_wp2
            go_roundw
            case rel => exact ⟨k + 1, A6, m + 1, c6, by omega, hm2, by go_num, rfl, ho5, hb5⟩
            case measure => simp [intOf]; omega
      · obtain rfl : k = n := by omega
        have k3 : ¬ (k : Int) < (k : Int) := by omega
        rw [← HE.out] at hown
        have hlen := Lib.hid hown.form.1
        have hown2 : OwnI wr w.heap.size (.slice A4 m c4) L := hown.base hz1
        have hb2 := hb1.trans (hb.mono hz1)
        clear hown
        go_wp2
        go_ret
        rw [← hlen.out]
        exact ⟨A4, c4, rfl, hown2, hb2⟩
set_option maxHeartbeats 4000000 in
theorem spec_lateM (A : Option Addr) (n c : Nat) (f : Nat → Nat → Int) (a d t : Int) (L : List Int) (B : Nat) (w : World) (h : RowP 4 w B A n c f) (hB : B ≤ w.heap.size) (hn : n ≤ 1048576) (hL : Hid (L = lateMembs f a d t n)) :
    Calls Try.prog 44 #[.slice A n c, .int .i64 a, .int .i64 d, .int .i64 t] w fun e w' => ∃ A2 c2, e = .returned (.slice A2 L.length c2) ∧ OwnI w' w.heap.size (.slice A2 L.length c2) L ∧ Below w.heap.size w w' := by
  have hcap := h.cap
  unfold maxLen at hcap
  obtain ⟨i0, hi, hz0, hz1, hz2⟩ := info_parts info_bool
  go_enter Try.func44, Try.ntmps44
  go_wp2_with (refine wpList_make_full _ rfl _ _ 73 rfl w.heap.size 4 i0 (.bool false) 1 Try.underlying73 hi hz0 hz1 .i64 .i64 _ _ 10 rfl rfl rfl rfl (by rw [hz2]; omega) (by unfold maxLen; omega) (Nat.le_refl _) ?_; intro w1 hown hgrow)
  have hown1 := ownsB_made hown
  have hb1 : Below w.heap.size w w1 := (Below.refl _ _).grown hgrow (Nat.le_refl _) (fun k h => by cases h)
  clear hown hgrow
  rw [← lateFl_zero f a d t] at hown1
  go_loopw [10, 11] (fun i _ wr => ∃ k : Nat, k ≤ n ∧ i = .int .i64 k ∧ Hid (lateOk f a d t k = true) ∧ (0 < k → n ≤ 60) ∧ OwnB wr w.heap.size (.slice (some ⟨w.heap.size, 0, none⟩) 10 10) (lateFl f a d t k) ∧ Below w.heap.size w wr) (fun i _ _ => n - (intOf i).toNat)
  case atStart => exact ⟨0, by omega, rfl, Lib.hid rfl, by omega, hown1, hb1⟩
  case round =>
    clear hown1 hb1
    obtain ⟨k, hk, rfl, hLO, h60, hown, hb⟩ := hrel
    have hbw := hb.size
    by_cases hlt : k < n
    · have h2 : RowP 4 wr B A n c f := h.keep fun p hp => hb.cell (by omega)
      obtain ⟨b, off, rfl, hbB, hc⟩ := h2.at_ hlt
      have x0 : wr.cell? ⟨b, off + k * 4, none⟩ = some (.int .i64 (f k 0)) := by exact hc 0 (by omega)
      have x1 : wr.cell? ⟨b, off + k * 4 + 1, none⟩ = some (.int .i64 (f k 1)) := by rw [Nat.add_assoc]; exact hc 1 (by omega)
      have x2 : wr.cell? ⟨b, off + k * 4 + 2, none⟩ = some (.int .i64 (f k 2)) := by rw [Nat.add_assoc]; exact hc 2 (by omega)
      have x3 : wr.cell? ⟨b, off + k * 4 + 3, none⟩ = some (.int .i64 (f k 3)) := by rw [Nat.add_assoc]; exact hc 3 (by omega)
      have k0 : (0 : Int) ≤ (k : Int) := by omega
      have k3 : (k : Int) < (n : Int) := by omega
      clear h2
      go_wp2_with fail
      refine (spec_late (f k) a d t _).mono ?_
      rintro e w2 ⟨rfl, hb2⟩
      have hown2 := hown.keep hb2
      have hb3 := hb.trans (hb2.mono (by omega))
      have x5 := (hb2.cell (p := ⟨b, off + k * 4 + 1, none⟩) (by show b < wr.heap.size; omega)).trans x1
      clear hb hb2 x0 x1 x2 x3 hown hc
      obtain ⟨q, hq⟩ : ∃ q, q = lateAt f a d t k := ⟨_, rfl⟩
      have HQ := Lib.hid hq
      change _ = lateDays (f k) a d t at hq
      rw [← hq]
      clear hq
      rcases (by omega : q < 0 ∨ 0 ≤ q) with hq0 | hq0
      · have HE := Lib.hid (show L = [] by rw [hL.out]; unfold lateMembs; rw [lateOk_no hlt (by rw [← HQ.out]; exact hq0)]; rfl)
        go_wp2
        go_ret
        rw [HE.out]
        exact ⟨_, _, rfl, (own_empty w2).base hb3.size, hb3.alloc hb3.size _⟩
      · have HLO := Lib.hid (show lateOk f a d t (k + 1) = true from allTo_step (p := fun k => decide (0 ≤ lateAt f a d t k)) hLO.out (decide_eq_true (by rw [← HQ.out]; exact hq0)))
        rcases (by omega : 60 < n ∨ n ≤ 60) with r | r
        · have HE := Lib.hid (show L = [] by rw [hL.out]; unfold lateMembs graceOk; rw [decide_eq_false (by omega : ¬ n ≤ 60)]; rfl)
          have r2 : (60 : Int) < (n : Int) := by omega
          go_wp2
          go_ret
          rw [HE.out]
          exact ⟨_, _, rfl, (own_empty w2).base hb3.size, hb3.alloc hb3.size _⟩
        · have r2 : ¬ (60 : Int) < (n : Int) := by omega
          have r4 : (n : Int) ≤ 60 := by omega
          rcases (by omega : q ≤ 0 ∨ 0 < q) with s | s
          · have HS := Lib.hid (lateFl_skip (f := f) (a := a) (d := d) (t := t) (k := k) (by rw [← HQ.out]; exact s))
            rw [← HS.out] at hown2
            go_wp2
            go_roundw
            case rel => exact ⟨k + 1, by omega, by go_num, HLO, fun _ => r, hown2, hb3⟩
            case measure => simp [intOf]; omega
          · have hfr := lateAt_from (f := f) (a := a) (c := d) (t := t) (k := k) (by rw [← HQ.out]; exact hq0)
            obtain ⟨v, hv⟩ : ∃ v : Nat, f k 1 = v := ⟨(f k 1).toNat, by omega⟩
            have hv10 : v < 10 := by omega
            rw [hv] at x5
            have v0 : (0 : Int) ≤ (v : Int) := by omega
            have v3 : (v : Int) < 10 := by omega
            have hy := hown2.cellAt (j := v) (by rw [lateFl_len]; exact hv10)
            have hf := hown2.frozenAt v
            have hown3 := hown2.stored v true
            rw [lateFl_set (by rw [← HQ.out]; exact s) hv] at hown3
            have hb4 := hb3.setCell (p := ⟨w.heap.size, v, none⟩) (Nat.le_refl _) (.bool true)
            clear hown2 hfr hv
            go_wp2
            go_roundw
            case rel => exact ⟨k + 1, by omega, by go_num, HLO, fun _ => r, hown3, hb4⟩
            case measure => simp [intOf]; omega
    · obtain rfl : k = n := by omega
      have k3 : ¬ (k : Int) < (k : Int) := by omega
      have h60' : k ≤ 60 := by rcases (by omega : k = 0 ∨ 0 < k) with e | e; omega; exact h60 e
      have HE := Lib.hid (show L = lateMs f a d t k by rw [hL.out]; unfold lateMembs graceOk; rw [hLO.out, decide_eq_true h60']; rfl)
      obtain ⟨p, hp⟩ : ∃ p, p = (fun v => isLate f a d t v k) := ⟨_, rfl⟩
      have HE2 := Lib.hid (show L = membs p 10 by rw [HE.out, hp]; rfl)
      have HF := Lib.hid (fun v (hv : v < 10) => (show bth (lateFl f a d t k) v = p v by rw [bth_lateFl hv, hp]))
      obtain ⟨F, hF⟩ : ∃ F, F = lateFl f a d t k := ⟨_, rfl⟩
      rw [← hF] at hown HF
      have HFl := Lib.hid (show F.length = 10 by rw [hF, lateFl_len])
      clear hp h60 hF HE
      go_wp2_with fail
      obtain ⟨wo, rfl⟩ : ∃ wo : World, wo = wr := ⟨_, rfl⟩
      go_loopw [12, 13] (fun v i wr => ∃ (j : Nat) (A2 : Option Addr) (m c2 : Nat), j ≤ 10 ∧ i = .int .i64 j ∧ v = .slice A2 m c2 ∧ OwnI wr wo.heap.size (.slice A2 m c2) (membs p j) ∧ Below wo.heap.size wo wr) (fun _ i _ => 10 - (intOf i).toNat)
      case atStart => exact ⟨0, _, 0, _, by omega, rfl, rfl, own_empty wo, (Below.refl _ _).alloc (Nat.le_refl _) _⟩
      case round =>
        obtain ⟨j, A2, m, c2, hj, rfl, rfl, hrow, hb2⟩ := hrel
        have hbw2 := hb2.size
        have hlen := Lib.hid hrow.form.1
        have hml : m ≤ 10 := by have := hlen.out; have := membs_len p j; omega
        by_cases hj10 : j < 10
        · have hy := (hown.keep hb2).cellAt (j := j) (by rw [HFl.out]; exact hj10)
          rw [HF.out j hj10] at hy
          have j0 : (0 : Int) ≤ (j : Int) := by omega
          have j3 : (j : Int) < 10 := by omega
          have HM := Lib.hid (membs_succ p j)
          rcases Bool.eq_false_or_eq_true (p j) with s | s
          · rw [s] at hy
            have HS := Lib.hid (show membs p (j + 1) = membs p j ++ [(j : Int)] by rw [HM.out, if_pos s])
            clear s
            go_wp2_with (at_builtin; refine app_shape rfl _ _ rfl wo.heap.size _ (membs p j) (j : Int) wr.heap.size m (hlen.out.symm) rfl (hrow.alloc _) rfl (heap_alloc_new wr _) (by rw [← hlen.out]; omega) (by simp; omega) ?_; intro A4 c4 w4 ho4 hb4)
            rw [← HS.out] at ho4
            have hb5 := (hb2.alloc hb2.size _).trans hb4
            clear hb4 hrow hb2
            go_wp2
            go_roundw
            case rel => exact ⟨j + 1, A4, m + 1, c4, by omega, by go_num, rfl, ho4, hb5⟩
            case measure => simp [intOf]; omega
          · rw [s] at hy
            have HS := Lib.hid (show membs p (j + 1) = membs p j by rw [HM.out, if_neg (by rw [s]; simp), List.append_nil])
            rw [← HS.out] at hrow
            clear s
            go_wp2
            go_roundw
            case rel => exact ⟨j + 1, A2, m, c2, by omega, by go_num, rfl, hrow, hb2⟩
            case measure => simp [intOf]; omega
        · have HJ := Lib.hid (show membs p j = L by rw [HE2.out, show j = 10 by omega])
          rw [HJ.out] at hrow
          have hlen2 := Lib.hid hrow.form.1
          have j3 : ¬ (j : Int) < 10 := by omega
          have hrow2 : OwnI wr w.heap.size (.slice A2 m c2) L := hrow.base hbw
          have hb5 := hb.trans (hb2.mono hbw)
          clear hrow
          go_wp2
          go_ret
          rw [← hlen2.out]
          exact ⟨A2, c2, rfl, hrow2, hb5⟩
end Go.Proofs.Ythfhbcgnninlkaa
