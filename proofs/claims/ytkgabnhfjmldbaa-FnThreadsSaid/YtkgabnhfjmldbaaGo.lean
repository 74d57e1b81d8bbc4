/- Contracts: can what is left be walked from a point (canGo of the program, l20CanGo of the reference)? -/
import Derived.Test.YtkgabnhfjmldbaaThr4
import Derived.Test.YtkgabnhfjmldbaaThrT
import Derived.Test.YtkgabnhfjmldbaaPut
import Derived.Test.YtkgabnhfjmldbaaPureGo
namespace Go.Proofs.Ytkgabnhfjmldbaa
open Go.ChangeShapes Go.WideShapes Go.ChangeAt Go.RowKit
theorem canGo_zero (N : Nat) (f : Nat → Nat → Int) (v : Nat) : canGo N f 0 v = true := rfl
theorem canGo_parts {N : Nat} {f : Nat → Nat → Int} {l v : Nat} (hin : inN N f l) (hv : v < N) (h : 0 < l) :
    canGo N f l v = (decide (0 < degTo f v l) && (cnt (isHead f l) N == 1) && (cnt (isOdd f l) N == 0 || (cnt (isOdd f l) N == 2 && isOdd f l v))) := by
  have e0 : (l == 0) = false := by simp; omega
  unfold canGo
  rw [e0, Bool.false_or]
  rcases Nat.eq_zero_or_pos (degTo f v l) with q | q
  · rw [q]; rfl
  · rw [heads_one hin hv q]
set_option maxHeartbeats 4000000 in
theorem impl_canGo (N v : Nat) (A : Option Addr) (l c : Nat) (f : Nat → Nat → Int) (B : Nat) (w : World) (h : RowP 2 w B A l c f) (hB : B ≤ w.heap.size) (hN1 : 1 ≤ N) (hN : N ≤ 10) (hl : l ≤ 20) (hf : ∀ k, k < l → 0 ≤ f k 0 ∧ f k 0 < N ∧ 0 ≤ f k 1 ∧ f k 1 < N ∧ f k 0 ≠ f k 1) (hv : v < N) :
    Calls Try.prog 33 #[.int .i64 N, .slice A l c, .int .i64 v] w fun e w' => e = .returned (.bool (canGo N f l v)) ∧ Below w.heap.size w w' := by
  rcases (by omega : l = 0 ∨ 0 < l) with q0 | q0
  · subst q0
    go_enter Try.func33, Try.ntmps33
    go_wp2
    go_ret
    exact ⟨rfl, Below.refl _ _⟩
  have HG := Lib.hid (canGo_parts (show inN N f l from hf) hv q0)
  have d0 : ((l : Int) == 0) = false := beq_eq_false_iff_ne.2 (by omega)
  have d0' : (l == 0) = false := beq_eq_false_iff_ne.2 (by omega)
  have hlen1 := membs_cnt (isHead f l) N
  have hlen2 := membs_cnt (isOdd f l) N
  have HL1 := Lib.hid hlen1
  have HL2 := Lib.hid hlen2
  clear hlen1 hlen2
  go_enter Try.func33, Try.ntmps33
  go_wp2_with fail
  refine (impl_heads N A l c f B w h hB hN1 hN hl hf).mono ?_
  rintro e w1 ⟨A1, c1, rfl, o1, b1⟩
  have h1 := h.below' b1 hB
  obtain ⟨H, hH⟩ : ∃ H, H = (heads N f l).length := ⟨_, rfl⟩
  rw [← hH]
  have HH := Lib.hid (show cnt (isHead f l) N = H by rw [hH, ← HL1.out]; rfl)
  clear o1 hH
  rcases (by omega : H ≠ 1 ∨ H = 1) with q1 | q1
  · have d1 : ((H : Int) == 1) = false := beq_eq_false_iff_ne.2 (by omega)
    have d1' : ((H : Int) != 1) = true := by simp only [bne, d1, Bool.not_false]
    have d2 : (H == 1) = false := beq_eq_false_iff_ne.2 q1
    have HE := Lib.hid (show canGo N f l v = false by rw [HG.out, HH.out, d2, Bool.and_false, Bool.false_and])
    go_wp2
    go_ret
    exact ⟨ret_bool HE.out.symm, b1⟩
  subst q1
  have z1 := b1.size
  go_wp2_with fail
  refine (impl_ends N A l c f B w1 h1 (by omega) hN hl hf).mono ?_
  rintro e w2 ⟨rfl, o2, b2⟩
  have x := o2.cellAt (show v < (degs N f l).length by rw [degs_len]; exact hv)
  rw [degs_nth f l hv] at x
  have h2 := h1.below' b2 (by omega)
  have b3 := b1.trans (b2.mono z1)
  have z2 := b2.size
  have hdb := degTo_bd f v l
  obtain ⟨D, hD⟩ : ∃ D, D = degTo f v l := ⟨_, rfl⟩
  rw [← hD] at x hdb
  have HD := Lib.hid hD
  have v0 : (0 : Int) ≤ (v : Int) := by omega
  have v1 : (v : Int) < (N : Int) := by omega
  clear o2 hD b1 b2
  rcases (by omega : D = 0 ∨ 0 < D) with q2 | q2
  · subst q2
    have HE := Lib.hid (show canGo N f l v = false by rw [HG.out, ← HD.out]; rfl)
    go_wp2
    go_ret
    exact ⟨ret_bool HE.out.symm, b3⟩
  have d3 : ((D : Int) == 0) = false := beq_eq_false_iff_ne.2 (by omega)
  have d3' : (D == 0) = false := beq_eq_false_iff_ne.2 (by omega)
  have HG2 := Lib.hid (show canGo N f l v = (cnt (isOdd f l) N == 0 || (cnt (isOdd f l) N == 2 && isOdd f l v)) by
    rw [HG.out, HH.out, ← HD.out, decide_eq_true q2]; rfl)
  go_wp2_with fail
  refine (impl_odd N A l c f B w2 h2 (by omega) hN hl hf).mono ?_
  rintro e w4 ⟨A4, c4, rfl, o4, b4⟩
  have b5 := b3.trans (b4.mono (by omega))
  have r4 := o4.rowI (membs_wf (by omega))
  obtain ⟨L, hL⟩ : ∃ L, L = odds N f l := ⟨_, rfl⟩
  have HI := Lib.hid (show decide (idxOf L (v : Int) < 0) = !isOdd f l v by
    rw [hL, idxOf_has]
    unfold odds
    rw [membs_has hv])
  obtain ⟨O, hO⟩ : ∃ O, O = (odds N f l).length := ⟨_, rfl⟩
  have HO := Lib.hid (show cnt (isOdd f l) N = O by rw [hO, ← HL2.out]; rfl)
  rw [← hO]
  rw [← hO, ← hL] at r4
  clear o4 b4 b3 x hO hL
  rcases (by omega : O = 0 ∨ O = 2 ∨ (O ≠ 0 ∧ O ≠ 2)) with q3 | q3 | ⟨q3, q4⟩
  · subst q3
    have HE := Lib.hid (show canGo N f l v = true by rw [HG2.out, HO.out]; rfl)
    go_wp2
    go_ret
    exact ⟨ret_bool HE.out.symm, b5⟩
  · subst q3
    have HE := Lib.hid (show canGo N f l v = isOdd f l v by rw [HG2.out, HO.out]; rfl)
    go_wp2_with fail
    refine (index_any A4 2 c4 L v _ _ r4).mono ?_
    rintro e w' ⟨rfl, rfl⟩
    obtain ⟨I, hI⟩ : ∃ I, I = idxOf L (v : Int) := ⟨_, rfl⟩
    rw [← hI] at HI ⊢
    clear hI
    rcases (by omega : I < 0 ∨ 0 ≤ I) with q5 | q5
    · have q6 : ¬ 0 ≤ I := by omega
      have HE2 := Lib.hid (show canGo N f l v = false by rw [HE.out]; have := HI.out; rw [decide_eq_true q5] at this; simpa using this.symm)
      have q7 : decide (0 ≤ I) = false := decide_eq_false q6
      go_wp2
      go_ret
      exact ⟨ret_bool HE2.out.symm, b5⟩
    · have HE2 := Lib.hid (show canGo N f l v = true by rw [HE.out]; have := HI.out; rw [decide_eq_false (by omega)] at this; simpa using this.symm)
      have q7 : decide (0 ≤ I) = true := decide_eq_true q5
      go_wp2
      go_ret
      exact ⟨ret_bool HE2.out.symm, b5⟩
  · have d5 : ((O : Int) == 0) = false := beq_eq_false_iff_ne.2 (by omega)
    have d6 : ((O : Int) == 2) = false := beq_eq_false_iff_ne.2 (by omega)
    have d7 : (O == 0) = false := beq_eq_false_iff_ne.2 (by omega)
    have d8 : (O == 2) = false := beq_eq_false_iff_ne.2 (by omega)
    have HE := Lib.hid (show canGo N f l v = false by rw [HG2.out, HO.out, d7, d8]; rfl)
    go_wp2
    go_ret
    exact ⟨ret_bool HE.out.symm, b5⟩
set_option maxRecDepth 100000 in
set_option maxHeartbeats 4000000 in
theorem spec_canGo (N v : Nat) (A : Option Addr) (l c : Nat) (f : Nat → Nat → Int) (B : Nat) (w : World) (h : RowP 2 w B A l c f) (hB : B ≤ w.heap.size) (hN1 : 1 ≤ N) (hN : N ≤ 10) (hl : l ≤ 20) (hf : ∀ k, k < l → 0 ≤ f k 0 ∧ f k 0 < N ∧ 0 ≤ f k 1 ∧ f k 1 < N ∧ f k 0 ≠ f k 1) (hv : v < N) :
    Calls Try.prog 32 #[.int .i64 N, .slice A l c, .int .i64 v] w fun e w' => e = .returned (.bool (canGo N f l v)) ∧ Below w.heap.size w w' := by
  rcases (by omega : l = 0 ∨ 0 < l) with q0 | q0
  · subst q0
    go_enter Try.func32, Try.ntmps32
    go_wp2
    go_ret
    exact ⟨rfl, Below.refl _ _⟩
  have d0 : ((l : Int) == 0) = false := beq_eq_false_iff_ne.2 (by omega)
  have d0' : (l == 0) = false := beq_eq_false_iff_ne.2 (by omega)
  have HG := Lib.hid (show canGo N f l v = (decide (0 < degTo f v l) && allTo (fun i => degTo f i l == 0 || part_ f l i == part_ f l v) N && (cnt (isOdd f l) N == 0 || (cnt (isOdd f l) N == 2 && isOdd f l v))) by
    unfold canGo; rw [d0', Bool.false_or])
  go_enter Try.func32, Try.ntmps32
  go_wp2_with fail
  refine (spec_ends N A l c f B w h hB hN hl hf).mono ?_
  rintro e w1 ⟨rfl, oD, b1⟩
  have z1 := b1.size
  go_wp2_with fail
  refine (spec_parts N A l c f B w1 (h.below' b1 hB) (by omega) hN1 hN hl hf).mono ?_
  rintro e w2 ⟨gP, cP, rfl, oP, b2⟩
  have oD2 := oD.keep b2
  have b3 := b1.trans (b2.mono z1)
  have oDz := oD2.ge
  clear oD b1 b2 h
  obtain ⟨gD, hgD⟩ : ∃ g, g = w.heap.size := ⟨_, rfl⟩
  rw [← hgD] at oD2 oDz
  rw [← hgD]
  clear hgD
  have v0 : (0 : Int) ≤ (v : Int) := by omega
  have v1 : (v : Int) < (N : Int) := by omega
  go_wp2_with fail
  go_loopw [9, 10] (fun ov iv wr => ∃ i : Nat, i ≤ N ∧ iv = .int .i64 i ∧ ov = .int .i64 (cnt (isOdd f l) i : Nat) ∧ Hid (∀ j, j < i → (degTo f j l == 0 || part_ f l j == part_ f l v) = true) ∧ OwnI wr gD (.slice (some ⟨gD, 0, none⟩) N N) (degs N f l) ∧ OwnI wr w1.heap.size (.slice (some ⟨gP, 0, none⟩) N cP) (labs N (part_ f l)) ∧ Below w.heap.size w wr) (fun _ iv _ => N - (intOf iv).toNat)
  case atStart => exact ⟨0, by omega, rfl, rfl, Lib.hid (fun j hj => absurd hj (by omega)), oD2, oP, b3⟩
  case round =>
    clear oD2 oP b3 oDz
    obtain ⟨i, hi, rfl, rfl, HJ, oD, oP, hb⟩ := hrel
    have hcb := cnt_le (isOdd f l) i
    by_cases hlt : i < N
    · have j0 : (0 : Int) ≤ (i : Int) := by omega
      have j3 : (i : Int) < (N : Int) := by omega
      have hd := oD.cellAt (j := i) (by rw [degs_len]; exact hlt)
      rw [degs_nth f l hlt] at hd
      have ht := oP.cellAt (j := i) (by rw [labs_len]; exact hlt)
      rw [labs_nth _ hlt] at ht
      have hv2 := oP.cellAt (j := v) (by rw [labs_len]; exact hv)
      rw [labs_nth _ hv] at hv2
      have hdb := degTo_bd f i l
      have HS2 := Lib.hid (show cnt (isOdd f l) (i + 1) = cnt (isOdd f l) i + (if isOdd f l i then 1 else 0) from rfl)
      obtain ⟨C, hC⟩ : ∃ C, C = cnt (isOdd f l) i := ⟨_, rfl⟩
      rw [← hC] at hcb HS2 ⊢
      obtain ⟨d, hdd⟩ : ∃ d, d = degTo f i l := ⟨_, rfl⟩
      rw [← hdd] at hd hdb
      obtain ⟨u, huu⟩ : ∃ u, u = part_ f l i := ⟨_, rfl⟩
      rw [← huu] at ht
      obtain ⟨uv, huv⟩ : ∃ u, u = part_ f l v := ⟨_, rfl⟩
      rw [← huv] at hv2
      obtain ⟨r2, hr2⟩ : ∃ r2, r2 = d % 2 := ⟨_, rfl⟩
      have t8 : (d : Int).tmod 2 = (r2 : Int) := by rw [Int.tmod_eq_emod_of_nonneg (by omega)]; omega
      have t9 : (d : Int) % 2 = (r2 : Int) := by omega
      have hr3 : r2 ≤ 1 := by omega
      have HS3 := Lib.hid (show cnt (isOdd f l) (i + 1) = C + r2 by
        rw [HS2.out]; unfold isOdd; rw [← hdd, ← hr2]
        rcases (by omega : r2 = 0 ∨ r2 = 1) with q | q <;> rw [q] <;> rfl)
      have HDD := Lib.hid hdd
      have HUU := Lib.hid huu
      have HUV := Lib.hid huv
      clear hC hr2 hdd huu huv HS2
      have w0 : IntKind.i64.wrap ((C : Int) + (r2 : Int)) = ((C + r2 : Nat) : Int) := by rw [IntWalk.i64_in _ (by omega)]; omega
      rcases (by omega : d = 0 ∨ (0 < d ∧ u = uv) ∨ (0 < d ∧ u ≠ uv)) with q | ⟨q, q1⟩ | ⟨q, q1⟩
      · have HJ2 := Lib.hid (show ∀ j, j < i + 1 → (degTo f j l == 0 || part_ f l j == part_ f l v) = true by
          intro j hj
          rcases (by omega : j < i ∨ j = i) with a | rfl
          · exact HJ.out j a
          · rw [← HDD.out, q]; rfl)
        obtain rfl : r2 = 0 := by omega
        have e1 : decide ((0 : Int) < (d : Int)) = false := decide_eq_false (by omega)
        have e2 : ¬ (0 : Int) < (d : Int) := by omega
        go_wp2_with fail
        go_region
        clear hd ht hv2 t8 t9
        go_wp2
        go_roundw
        case rel => exact ⟨i + 1, by omega, by go_num, by rw [HS3.out]; congr 1, HJ2, oD.drew, oP.drew, hb.drew⟩
        case measure => simp [intOf]; omega
      · have HJ2 := Lib.hid (show ∀ j, j < i + 1 → (degTo f j l == 0 || part_ f l j == part_ f l v) = true by
          intro j hj
          rcases (by omega : j < i ∨ j = i) with a | rfl
          · exact HJ.out j a
          · rw [← HUU.out, ← HUV.out, q1]; simp)
        subst q1
        have e1 : decide ((0 : Int) < (d : Int)) = true := decide_eq_true (by omega)
        have e2 : (0 : Int) < (d : Int) := by omega
        have e3 : ((u : Int) == (u : Int)) = true := by simp
        have e4 : ((u : Int) != (u : Int)) = false := by simp
        go_wp2_with fail
        go_region
        clear hd ht hv2 t8 t9
        go_wp2
        go_roundw
        case rel => exact ⟨i + 1, by omega, by go_num, by rw [HS3.out]; congr 1, HJ2, oD.drew, oP.drew, hb.drew⟩
        case measure => simp [intOf]; omega
      · have HE := Lib.hid (show canGo N f l v = false by
          rw [HG.out, allTo_no (p := fun i => degTo f i l == 0 || part_ f l i == part_ f l v) hlt (by
            have a : (d == 0) = false := beq_eq_false_iff_ne.2 (by omega)
            have b : (u == uv) = false := beq_eq_false_iff_ne.2 q1
            rw [← HDD.out, ← HUU.out, ← HUV.out, a, b]; rfl), Bool.and_false, Bool.false_and])
        have e1 : decide ((0 : Int) < (d : Int)) = true := decide_eq_true (by omega)
        have e2 : (0 : Int) < (d : Int) := by omega
        have e3 : ((u : Int) == (uv : Int)) = false := beq_eq_false_iff_ne.2 (by omega)
        have e4 : ((u : Int) != (uv : Int)) = true := by simp only [bne, e3, Bool.not_false]
        go_wp2_with fail
        go_region
        clear hd ht hv2 t8 t9
        go_wp2
        go_ret
        exact ⟨ret_bool HE.out.symm, hb.drew⟩
    · obtain rfl : i = N := by omega
      have j3 : ¬ (i : Int) < (i : Int) := by omega
      have HA := Lib.hid (show allTo (fun j => degTo f j l == 0 || part_ f l j == part_ f l v) i = true from allTo_iff.2 HJ.out)
      have HG2 := Lib.hid (show canGo i f l v = (decide (0 < degTo f v l) && (cnt (isOdd f l) i == 0 || (cnt (isOdd f l) i == 2 && isOdd f l v))) by rw [HG.out, HA.out, Bool.and_true])
      have hd := oD.cellAt (j := v) (by rw [degs_len]; exact hv)
      rw [degs_nth f l hv] at hd
      have hdb := degTo_bd f v l
      have HO := Lib.hid (show isOdd f l v = (degTo f v l % 2 == 1) from rfl)
      obtain ⟨d, hdd⟩ : ∃ d, d = degTo f v l := ⟨_, rfl⟩
      rw [← hdd] at hd hdb HG2 HO
      obtain ⟨C, hC⟩ : ∃ C, C = cnt (isOdd f l) i := ⟨_, rfl⟩
      rw [← hC] at HG2 hcb ⊢
      obtain ⟨r2, hr2⟩ : ∃ r2, r2 = d % 2 := ⟨_, rfl⟩
      have t8 : (d : Int).tmod 2 = (r2 : Int) := by rw [Int.tmod_eq_emod_of_nonneg (by omega)]; omega
      have t9 : (d : Int) % 2 = (r2 : Int) := by omega
      rw [← hr2] at HO
      clear hdd hC hr2 HJ
      rcases (by omega : d = 0 ∨ 0 < d) with q | q
      · have e1 : decide ((0 : Int) < (d : Int)) = false := decide_eq_false (by omega)
        have e2 : ¬ (0 : Int) < (d : Int) := by omega
        have HE := Lib.hid (show canGo i f l v = false by rw [HG2.out, q]; rfl)
        go_wp2
        go_ret
        exact ⟨ret_bool HE.out.symm, hb⟩
      · have e1 : decide ((0 : Int) < (d : Int)) = true := decide_eq_true (by omega)
        have e2 : (0 : Int) < (d : Int) := by omega
        have HG3 := Lib.hid (show canGo i f l v = (C == 0 || (C == 2 && r2 == 1)) by rw [HG2.out, decide_eq_true q, HO.out]; rfl)
        rcases (by omega : C = 0 ∨ C = 2 ∨ (C ≠ 0 ∧ C ≠ 2)) with a | a | ⟨a, a2⟩
        · subst a
          have HE := Lib.hid (show canGo i f l v = true by rw [HG3.out]; rfl)
          go_wp2
          go_ret
          exact ⟨ret_bool HE.out.symm, hb⟩
        · subst a
          have HE := Lib.hid (show canGo i f l v = (r2 == 1) by rw [HG3.out]; rfl)
          rcases (by omega : r2 = 1 ∨ r2 ≠ 1) with p | p
          · subst p
            have p1 : (((1 : Nat) : Int) == 1) = true := rfl
            go_wp2
            go_ret
            exact ⟨ret_bool (by rw [HE.out]; rfl), hb⟩
          · have p1 : ((r2 : Int) == 1) = false := beq_eq_false_iff_ne.2 (by omega)
            have p2 : (r2 == 1) = false := beq_eq_false_iff_ne.2 p
            have HE2 := Lib.hid (show canGo i f l v = false by rw [HE.out, p2])
            go_wp2
            go_ret
            exact ⟨ret_bool HE2.out.symm, hb⟩
        · have d5 : ((C : Int) == 0) = false := beq_eq_false_iff_ne.2 (by omega)
          have d6 : ((C : Int) == 2) = false := beq_eq_false_iff_ne.2 (by omega)
          have d7 : (C == 0) = false := beq_eq_false_iff_ne.2 (by omega)
          have d8 : (C == 2) = false := beq_eq_false_iff_ne.2 (by omega)
          have HE := Lib.hid (show canGo i f l v = false by rw [HG3.out, d7, d8]; rfl)
          go_wp2
          go_ret
          exact ⟨ret_bool HE.out.symm, hb⟩
end Go.Proofs.Ytkgabnhfjmldbaa
