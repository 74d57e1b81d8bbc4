/- Contracts of OddPoints and ThreadsNeeded: the reference's side. -/
import Derived.Test.YtkgabnhfjmldbaaThrT
namespace Go.Proofs.Ytkgabnhfjmldbaa
open Go.ChangeShapes Go.WideShapes Go.ChangeAt Go.RowKit
set_option maxRecDepth 100000 in
set_option maxHeartbeats 8000000 in
theorem spec_threads (n : Int) (A : Option Addr) (l c : Nat) (f : Nat → Nat → Int) (B : Nat) (w : World) (h : RowP 2 w B A l c f) (hB : B ≤ w.heap.size) :
    Calls Try.prog 7 #[.int .i64 n, .slice A l c] w fun e w' => e = .returned (.int .i64 (threads n l f)) ∧ Below w.heap.size w w' := by
  rcases Bool.eq_false_or_eq_true (linesOk n l f) with hO | hO
  · have hL := lines_of hO
    have n1 := hL.n1
    have n10 := hL.n10
    have l20 := hL.l20
    obtain ⟨N, rfl⟩ : ∃ N : Nat, n = N := ⟨n.toNat, by omega⟩
    have hN1 : 1 ≤ N := by omega
    have hN : N ≤ 10 := by omega
    have HE := Lib.hid (show threads (N : Int) l f = (thrTo N f l N : Nat) by unfold threads; rw [hO, if_pos rfl, Int.toNat_natCast])
    have HO := Lib.hid hO
    have HK := Lib.hid hL.ok
    clear hO hL
    go_enter Try.func7, Try.ntmps7
    go_wp2_with fail
    refine (spec_linesOk N A l c f B w h hB).mono ?_
    rintro e w1 ⟨rfl, hb1⟩
    rw [HO.out]
    have z1 := hb1.size
    go_wp2_with fail
    refine (spec_ends N A l c f B w1 (h.keep fun p hp => hb1.cell (by omega)) (by omega) hN l20 HK.out).mono ?_
    rintro e w2 ⟨rfl, oD, hb2'⟩
    have hb2 := hb1.trans (hb2'.mono z1)
    have z2 := hb2'.size
    obtain ⟨gD, hgD⟩ : ∃ g, g = w1.heap.size := ⟨_, rfl⟩
    rw [← hgD] at oD ⊢
    clear hgD
    go_wp2_with fail
    refine (spec_parts N A l c f B w2 (h.keep fun p hp => hb2.cell (by omega)) (by omega) hN1 hN l20 HK.out).mono ?_
    rintro e w3 ⟨gT, cT, rfl, oT, hb3'⟩
    have hb3 := hb2.trans (hb3'.mono (by omega))
    have oD3 := oD.keep hb3'
    clear hb1 hb2 hb2' hb3' oD h hB
    go_wp2_with fail
    go_loop [7, 8] (fun v i => ∃ k : Nat, k ≤ N ∧ i = .int .i64 k ∧ v = .int .i64 (thrTo N f l k : Nat)) (fun _ i => N - (intOf i).toNat)
    case atStart => exact ⟨0, by omega, rfl, rfl⟩
    case round =>
      obtain ⟨k, hk, rfl, rfl⟩ := hrel
      by_cases hkl : k < N
      · have k0 : (0 : Int) ≤ (k : Int) := by omega
        have k3 : (k : Int) < (N : Int) := by omega
        have hd := oD3.cellAt (j := k) (by rw [degs_len]; exact hkl)
        rw [degs_nth f l hkl] at hd
        have ht := oT.cellAt (j := k) (by rw [labs_len]; exact hkl)
        rw [labs_nth _ hkl] at ht
        obtain ⟨d, hdd⟩ : ∃ d, d = degTo f k l := ⟨_, rfl⟩
        rw [← hdd] at hd
        have HD := Lib.hid hdd
        obtain ⟨u, huu⟩ : ∃ u, u = part_ f l k := ⟨_, rfl⟩
        rw [← huu] at ht
        have HU := Lib.hid huu
        have hT10 := thrTo_bd N f l k
        have hT11 : (N + 1) * k ≤ 110 := Nat.le_trans (Nat.mul_le_mul (show N + 1 ≤ 11 by omega) (show k ≤ 10 by omega)) (by omega)
        obtain ⟨T, hT⟩ : ∃ T, T = thrTo N f l k := ⟨_, rfl⟩
        have HT := Lib.hid hT
        rw [← hT] at hT10 ⊢
        have hT12 : T ≤ 110 := by omega
        clear hdd huu hT hT10 hT11
        by_cases e : u = k
        · have t3 : ((u : Int) == (k : Int)) = true := by simp [e]
          have t4 : (u == k) = true := by simp [e]
          have t5 : ((u : Int) != (k : Int)) = false := by simp [e]
          rcases (by omega : 0 < d ∨ d = 0) with r | r
          · have HPk := Lib.hid (show isHead f l k = true by unfold isHead; rw [← HD.out, ← HU.out, e, decide_eq_true r]; simp)
            have t1 : ((d : Int) == (0 : Int)) = false := by simp; omega
            have t2 : (d == 0) = false := by simp; omega
            have HS := Lib.hid (show thrTo N f l (k + 1) = T + max 1 (oddIn N f l k / 2) by simp only [thrTo]; rw [← HT.out, if_pos HPk.out])
            have HC0 := Lib.hid (show cnt (fun p => isOdd f l p && part_ f l p == k) 0 = 0 from rfl)
            clear e r
            go_wp2_with fail
            clear hd ht
            go_loop [9, 10] (fun v i => ∃ j : Nat, j ≤ N ∧ i = .int .i64 j ∧ v = .int .i64 (cnt (fun p => isOdd f l p && part_ f l p == k) j : Nat)) (fun _ i => N - (intOf i).toNat)
            case atStart => exact ⟨0, by omega, rfl, rfl⟩
            case round =>
              obtain ⟨j, hj, rfl, rfl⟩ := hrel
              have hcb := cnt_le (fun p => isOdd f l p && part_ f l p == k) j
              by_cases hjl : j < N
              · have j0 : (0 : Int) ≤ (j : Int) := by omega
                have j3 : (j : Int) < (N : Int) := by omega
                have hd := oD3.cellAt (j := j) (by rw [degs_len]; exact hjl)
                rw [degs_nth f l hjl] at hd
                have ht := oT.cellAt (j := j) (by rw [labs_len]; exact hjl)
                rw [labs_nth _ hjl] at ht
                have hdb := degTo_bd f j l
                obtain ⟨dj, hdd⟩ : ∃ d, d = degTo f j l := ⟨_, rfl⟩
                rw [← hdd] at hd hdb
                obtain ⟨uj, huu⟩ : ∃ u, u = part_ f l j := ⟨_, rfl⟩
                rw [← huu] at ht
                have HS2 := Lib.hid (show cnt (fun p => isOdd f l p && part_ f l p == k) (j + 1) = cnt (fun p => isOdd f l p && part_ f l p == k) j + (if isOdd f l j && part_ f l j == k then 1 else 0) from rfl)
                obtain ⟨C, hC⟩ : ∃ C, C = cnt (fun p => isOdd f l p && part_ f l p == k) j := ⟨_, rfl⟩
                rw [← hC] at hcb HS2 ⊢
                clear hC
                by_cases e2 : uj = k
                · have t6 : ((uj : Int) == (k : Int)) = true := by simp [e2]
                  have t7 : (uj == k) = true := by simp [e2]
                  obtain ⟨r2, hr2⟩ : ∃ r2, r2 = dj % 2 := ⟨_, rfl⟩
                  have t8 : (dj : Int).tmod 2 = (r2 : Int) := by rw [Int.tmod_eq_emod_of_nonneg (by omega)]; omega
                  have t9 : (dj : Int) % 2 = (r2 : Int) := by omega
                  have hr3 : r2 ≤ 1 := by omega
                  have HS3 := Lib.hid (show cnt (fun p => isOdd f l p && part_ f l p == k) (j + 1) = C + r2 by
                    rw [HS2.out]; unfold isOdd; rw [← hdd, ← huu, t7, ← hr2]
                    rcases (by omega : r2 = 0 ∨ r2 = 1) with q | q <;> rw [q] <;> rfl)
                  clear e2 hdd huu hr2 HS2
                  go_wp2
                  go_round
                  case rel => exact ⟨j + 1, by omega, by go_num, by rw [HS3.out]; go_num⟩
                  case measure => simp [intOf]; omega
                · have t6 : ((uj : Int) == (k : Int)) = false := by simp; omega
                  have t7 : (uj == k) = false := by simp [e2]
                  have HS3 := Lib.hid (show cnt (fun p => isOdd f l p && part_ f l p == k) (j + 1) = C by
                    rw [HS2.out, ← huu, t7, Bool.and_false]; rfl)
                  clear e2 hdd huu HS2
                  go_wp2
                  go_round
                  case rel => exact ⟨j + 1, by omega, by go_num, by rw [HS3.out]⟩
                  case measure => simp [intOf]; omega
              · have j3 : ¬ (j : Int) < (N : Int) := by omega
                have HQ := Lib.hid (show cnt (fun p => isOdd f l p && part_ f l p == k) j = oddIn N f l k by rw [show j = N by omega]; rfl)
                rw [HQ.out]
                rw [HQ.out] at hcb
                obtain ⟨D, hD⟩ : ∃ D, D = oddIn N f l k := ⟨_, rfl⟩
                rw [← hD] at hcb HS ⊢
                obtain ⟨D2, hD2⟩ : ∃ q, q = D / 2 := ⟨_, rfl⟩
                have t5 : (D : Int).tdiv 2 = (D2 : Int) := by rw [Int.tdiv_eq_ediv_of_nonneg (by omega)]; omega
                have t6 : IntKind.i64.wrap (D2 : Int) = (D2 : Int) := IntWalk.i64_in _ (by omega)
                rw [← hD2] at HS
                have hD3 : D2 ≤ 5 := by omega
                clear hD2 hD HQ hcb
                rcases (by omega : D2 = 0 ∨ D2 = 1 ∨ 1 < D2) with r | r | r
                · subst r
                  have HM := Lib.hid (show thrTo N f l (k + 1) = T + 1 by rw [HS.out]; omega)
                  go_wp2
                  go_round
                  case rel => exact ⟨k + 1, by omega, by go_num, by rw [HM.out]; go_num⟩
                  case measure => simp [intOf]; omega
                · subst r
                  have HM := Lib.hid (show thrTo N f l (k + 1) = T + 1 by rw [HS.out]; omega)
                  go_wp2
                  go_round
                  case rel => exact ⟨k + 1, by omega, by go_num, by rw [HM.out]; go_num⟩
                  case measure => simp [intOf]; omega
                · have HM := Lib.hid (show thrTo N f l (k + 1) = T + D2 by rw [HS.out]; omega)
                  have r2 : ¬ (D2 : Int) < 1 := by omega
                  go_wp2
                  go_round
                  case rel => exact ⟨k + 1, by omega, by go_num, by rw [HM.out]; go_num⟩
                  case measure => simp [intOf]; omega
          · have HPk := Lib.hid (show isHead f l k = false by unfold isHead; rw [← HD.out, r]; rfl)
            have t1 : ((d : Int) == (0 : Int)) = true := by simp; omega
            have t2 : (d == 0) = true := by simp; omega
            have HS := Lib.hid (show thrTo N f l (k + 1) = T by simp only [thrTo]; rw [← HT.out, if_neg (by rw [HPk.out]; simp), Nat.add_zero])
            clear e r
            go_wp2
            go_round
            case rel => exact ⟨k + 1, by omega, by go_num, by rw [HS.out]⟩
            case measure => simp [intOf]; omega
        · have t3 : ((u : Int) == (k : Int)) = false := by simp; omega
          have t4 : (u == k) = false := by simp [e]
          have t5 : ((u : Int) != (k : Int)) = true := by simp; omega
          have HPk := Lib.hid (show isHead f l k = false by unfold isHead; rw [← HU.out, t4, Bool.and_false])
          have HS := Lib.hid (show thrTo N f l (k + 1) = T by simp only [thrTo]; rw [← HT.out, if_neg (by rw [HPk.out]; simp), Nat.add_zero])
          clear e
          go_wp2
          go_round
          case rel => exact ⟨k + 1, by omega, by go_num, by rw [HS.out]⟩
          case measure => simp [intOf]; omega
      · have k3 : ¬ (k : Int) < (N : Int) := by omega
        have HF2 := Lib.hid (show thrTo N f l k = thrTo N f l N by rw [show k = N by omega])
        go_wp2
        go_ret
        exact ⟨ret_int (by rw [HE.out, HF2.out]), hb3⟩
  · have HE := Lib.hid (show threads n l f = -1 by unfold threads; rw [hO]; rfl)
    go_enter Try.func7, Try.ntmps7
    go_wp2_with fail
    refine (spec_linesOk n A l c f B w h hB).mono ?_
    rintro e w1 ⟨rfl, hb1⟩
    rw [hO]
    go_wp2
    go_ret
    exact ⟨ret_int HE.out.symm, hb1⟩
end Go.Proofs.Ytkgabnhfjmldbaa
