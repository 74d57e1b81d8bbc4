/- Contracts of heads, OddPoints, AreJoined and ThreadsNeeded: the program's side. -/
import Derived.Test.YtkgabnhfjmldbaaThr3
namespace Go.Proofs.Ytkgabnhfjmldbaa
open Go.ChangeShapes Go.WideShapes Go.ChangeAt Go.RowKit
set_option maxHeartbeats 8000000 in
theorem impl_heads (N : Nat) (A : Option Addr) (l c : Nat) (f : Nat → Nat → Int) (B : Nat) (w : World) (h : RowP 2 w B A l c f) (hB : B ≤ w.heap.size) (hN1 : 1 ≤ N) (hN : N ≤ 10) (hl : l ≤ 20) (hf : ∀ k, k < l → 0 ≤ f k 0 ∧ f k 0 < N ∧ 0 ≤ f k 1 ∧ f k 1 < N ∧ f k 0 ≠ f k 1) :
    Calls Try.prog 28 #[.int .i64 N, .slice A l c] w fun e w' => ∃ A2 c2, e = .returned (.slice A2 (heads N f l).length c2) ∧ OwnI w' w.heap.size (.slice A2 (heads N f l).length c2) (heads N f l) ∧ Below w.heap.size w w' := by
  have HF := Lib.hid hf
  clear hf
  obtain ⟨P, hP⟩ : ∃ P, P = isHead f l := ⟨_, rfl⟩
  have HP := Lib.hid hP
  have HL := Lib.hid (show heads N f l = membs P N by rw [hP]; rfl)
  rw [HL.out]
  clear hP
  obtain ⟨wz, hwz⟩ : ∃ wz, wz = w.alloc (.cells #[] 3) := ⟨_, rfl⟩
  have hbz : Below w.heap.size w wz := by rw [hwz]; exact (Below.refl _ _).alloc (Nat.le_refl _) _
  have hoz : OwnI wz w.heap.size (.slice (some ⟨w.heap.size, 0, none⟩) 0 0) [] := by rw [hwz]; exact own_empty w
  have hzs : w.heap.size < wz.heap.size := by rw [hwz]; simp
  go_enter Try.func28, Try.ntmps28
  go_wp2_with fail
  rw [← hwz]
  clear hwz
  refine (impl_parts N A l c f B wz (h.keep fun p hp => hbz.cell (by omega)) (by omega) hN1 hN hl HF.out).mono ?_
  rintro e w1 ⟨gT, cT, rfl, oT, hb1'⟩
  have s1 := hb1'.size
  have hb1 := hbz.trans (hb1'.mono (by omega))
  go_wp2_with fail
  refine (impl_ends N A l c f B w1 (h.keep fun p hp => hb1.cell (by omega)) (by omega) hN hl HF.out).mono ?_
  rintro e w2 ⟨rfl, oD, hb2'⟩
  have s2 := hb2'.size
  have hb2 := hb1.trans (hb2'.mono (by omega))
  have oT2 := oT.keep hb2'
  obtain ⟨gD, hgD⟩ : ∃ g, g = w1.heap.size := ⟨_, rfl⟩
  have hgD2 : gD < w2.heap.size := by have := oD.ge; omega
  have hgT2 : gT < w2.heap.size := oT2.ge.2
  have hoz2 : OwnI w2 w.heap.size (.slice (some ⟨w.heap.size, 0, none⟩) 0 0) [] := (hoz.keep hb1').below hb2' (by intro k hk; simp [Value.ownBlock] at hk; omega)
  rw [← hgD] at oD ⊢
  clear hgD hoz hbz hb2' hb1' hb1 h oT
  go_wp2_with fail
  go_loopw [5, 7, 8, 17] (fun v _ _ i wr => ∃ (k : Nat) (A2 : Option Addr) (m c2 : Nat), k ≤ N ∧ i = .int .i64 k ∧ v = .slice A2 m c2 ∧ Hid ((membs P k).length = m) ∧ Hid (OwnI wr w2.heap.size (.slice A2 m c2) (membs P k) ∨ (m = 0 ∧ A2 = some ⟨w.heap.size, 0, none⟩ ∧ c2 = 0)) ∧ Below w2.heap.size w2 wr) (fun _ _ _ i _ => N - (intOf i).toNat)
  case atStart => exact ⟨0, _, 0, 0, by omega, rfl, rfl, Lib.hid rfl, Lib.hid (.inr ⟨rfl, rfl, rfl⟩), Below.refl _ _⟩
  case round =>
    obtain ⟨k, A2, m, c2, hk, rfl, rfl, hlen, hZ, hb⟩ := hrel
    have hbw := hb.size
    have hml : m ≤ 10 := by have := hlen.out; have := membs_len P k; omega
    have HMs := Lib.hid (membs_succ P k)
    by_cases hkl : k < N
    · have k0 : (0 : Int) ≤ (k : Int) := by omega
      have k3 : (k : Int) < (N : Int) := by omega
      have hd := ((oD.below hb (by intro q hq; simp [Value.ownBlock] at hq; omega)).cellAt (j := k) (by rw [degs_len]; exact hkl))
      rw [degs_nth f l hkl] at hd
      have ht := ((oT2.below hb (by intro q hq; simp [Value.ownBlock] at hq; omega)).cellAt (j := k) (by rw [labs_len]; exact hkl))
      rw [labs_nth _ hkl] at ht
      obtain ⟨d, hdd⟩ : ∃ d, d = degTo f k l := ⟨_, rfl⟩
      rw [← hdd] at hd
      have HD := Lib.hid hdd
      obtain ⟨u, huu⟩ : ∃ u, u = part_ f l k := ⟨_, rfl⟩
      rw [← huu] at ht
      have HU := Lib.hid huu
      clear hdd huu
      have hz0 : (OwnI (wr.alloc (.cells #[.int .i64 k] 3)) w2.heap.size (.slice A2 m c2) (membs P k) ∨ (membs P k = [] ∧ ∃ A, (Value.slice A2 m c2) = .slice (some A) 0 0)) := by
        rcases hZ.out with h | ⟨rfl, rfl, rfl⟩
        · exact .inl (h.alloc _)
        · exact .inr ⟨List.length_eq_zero_iff.1 hlen.out, _, rfl⟩
      rcases (by omega : 0 < d ∨ d = 0) with r | r
      · have t1 : (0 : Int) < (d : Int) := by omega
        have t2 : decide ((0 : Int) < (d : Int)) = true := decide_eq_true t1
        by_cases e : u = k
        · have HPk := Lib.hid (show P k = true by rw [HP.out]; unfold isHead; rw [← HD.out, ← HU.out, e, decide_eq_true r]; simp)
          have t3 : ((u : Int) == (k : Int)) = true := by simp [e]
          have t4 : (u == k) = true := by simp [e]
          clear e
          have HS := Lib.hid (show membs P (k + 1) = membs P k ++ [(k : Int)] by rw [HMs.out, if_pos HPk.out])
          have HLs := Lib.hid (show (membs P (k + 1)).length = m + 1 by rw [HS.out, List.length_append, hlen.out]; rfl)
          go_wp2_with (at_builtin; refine app_shapeZ rfl _ _ rfl w2.heap.size _ (membs P k) (k : Int) wr.heap.size m hlen.out rfl hz0 rfl (heap_alloc_new wr _) (by rw [hlen.out]; omega) (by simp; omega) ?_; intro A4 c4 w4 ho4 hb4)
          have hb5 := (hb.alloc hbw (.cells #[.int .i64 k] 3)).trans hb4
          rw [← HS.out] at ho4
          clear hb4 hz0
          go_roundw
          case rel => exact ⟨k + 1, A4, m + 1, c4, by omega, by go_num, rfl, HLs, Lib.hid (.inl ho4), hb5⟩
          case measure => simp [intOf]; omega
        · have HPk := Lib.hid (show P k = false by rw [HP.out]; unfold isHead; rw [← HD.out, ← HU.out, beq_eq_false_iff_ne.2 e, Bool.and_false])
          have t3 : ((u : Int) == (k : Int)) = false := by simp; omega
          have t4 : (u == k) = false := by simp [e]
          clear e
          have HS := Lib.hid (show membs P (k + 1) = membs P k by rw [HMs.out, if_neg (by rw [HPk.out]; simp), List.append_nil])
          have HLs := Lib.hid (show (membs P (k + 1)).length = m by rw [HS.out, hlen.out])
          have HZs := Lib.hid (show OwnI wr w2.heap.size (.slice A2 m c2) (membs P (k + 1)) ∨ (m = 0 ∧ A2 = some ⟨w.heap.size, 0, none⟩ ∧ c2 = 0) by rw [HS.out]; exact hZ.out)
          clear hz0 hZ
          go_wp2
          go_roundw
          case rel => exact ⟨k + 1, A2, m, c2, by omega, by go_num, rfl, HLs, HZs, hb⟩
          case measure => simp [intOf]; omega
      · have HPk := Lib.hid (show P k = false by rw [HP.out]; unfold isHead; rw [← HD.out, r]; rfl)
        have t2 : decide ((0 : Int) < (d : Int)) = false := decide_eq_false (by omega)
        have HS := Lib.hid (show membs P (k + 1) = membs P k by rw [HMs.out, if_neg (by rw [HPk.out]; simp), List.append_nil])
        have HLs := Lib.hid (show (membs P (k + 1)).length = m by rw [HS.out, hlen.out])
        have HZs := Lib.hid (show OwnI wr w2.heap.size (.slice A2 m c2) (membs P (k + 1)) ∨ (m = 0 ∧ A2 = some ⟨w.heap.size, 0, none⟩ ∧ c2 = 0) by rw [HS.out]; exact hZ.out)
        clear hz0 hZ
        go_wp2
        go_roundw
        case rel => exact ⟨k + 1, A2, m, c2, by omega, by go_num, rfl, HLs, HZs, hb⟩
        case measure => simp [intOf]; omega
    · have HE := Lib.hid (show membs P k = membs P N by rw [show k = N by omega])
      have hf : OwnI wr w.heap.size (.slice A2 m c2) (membs P k) := by
        rcases hZ.out with h | ⟨rfl, rfl, rfl⟩
        · exact h.base (by omega)
        · rw [List.length_eq_zero_iff.1 hlen.out]
          exact hoz2.below hb (by intro q hq; simp [Value.ownBlock] at hq; omega)
      have HLn := Lib.hid (show m = (membs P N).length by rw [← HE.out]; exact hlen.out.symm)
      rw [HE.out] at hf
      have k3 : ¬ (k : Int) < (N : Int) := by omega
      have hb9 := hb2.trans (hb.mono (by omega))
      clear hoz2
      go_wp2
      go_ret
      rw [← HLn.out]
      exact ⟨A2, c2, rfl, hf, hb9⟩
set_option maxHeartbeats 4000000 in
theorem impl_oddPts (n : Int) (A : Option Addr) (l c : Nat) (f : Nat → Nat → Int) (B : Nat) (w : World) (h : RowP 2 w B A l c f) (hB : B ≤ w.heap.size) :
    Calls Try.prog 19 #[.int .i64 n, .slice A l c] w fun e w' => ∃ A2 c2, e = .returned (.slice A2 (oddPts n l f).length c2) ∧ OwnI w' w.heap.size (.slice A2 (oddPts n l f).length c2) (oddPts n l f) ∧ Below w.heap.size w w' := by
  rcases Bool.eq_false_or_eq_true (linesOk n l f) with hO | hO
  · have hL := lines_of hO
    have n1 := hL.n1
    have n10 := hL.n10
    have l20 := hL.l20
    obtain ⟨N, rfl⟩ : ∃ N : Nat, n = N := ⟨n.toNat, by omega⟩
    have HE := Lib.hid (show oddPts (N : Int) l f = odds N f l by unfold oddPts; rw [hO, if_pos rfl, Int.toNat_natCast])
    rw [HE.out]
    have HO := Lib.hid hO
    have HK := Lib.hid hL.ok
    clear hO hL
    go_enter Try.func19, Try.ntmps19
    go_wp2_with fail
    refine (impl_linesOk N A l c f B w h hB).mono ?_
    rintro e w1 ⟨rfl, hb1⟩
    rw [HO.out]
    go_wp2_with fail
    refine (impl_odd N A l c f B w1 (h.keep fun p hp => hb1.cell (by omega)) (by have := hb1.size; omega) (by omega) l20 HK.out).mono ?_
    rintro e w2 ⟨A2, c2, rfl, o2, hb2⟩
    have hb3 := hb1.trans (hb2.mono hb1.size)
    have o3 := o2.base hb1.size
    clear o2 hb1 hb2
    go_wp2
    go_ret
    exact ⟨A2, c2, rfl, o3, hb3⟩
  · have HE := Lib.hid (show oddPts n l f = [] by unfold oddPts; rw [hO]; rfl)
    rw [HE.out]
    go_enter Try.func19, Try.ntmps19
    go_wp2_with fail
    refine (impl_linesOk n A l c f B w h hB).mono ?_
    rintro e w1 ⟨rfl, hb1⟩
    rw [hO]
    go_wp2
    go_ret
    exact ⟨none, 0, rfl, own_nil _ _, hb1⟩
set_option maxRecDepth 100000 in
set_option maxHeartbeats 8000000 in
theorem impl_threads (n : Int) (A : Option Addr) (l c : Nat) (f : Nat → Nat → Int) (B : Nat) (w : World) (h : RowP 2 w B A l c f) (hB : B ≤ w.heap.size) :
    Calls Try.prog 9 #[.int .i64 n, .slice A l c] w fun e w' => e = .returned (.int .i64 (threads n l f)) ∧ Below w.heap.size w w' := by
  rcases Bool.eq_false_or_eq_true (linesOk n l f) with hO | hO
  · have hL := lines_of hO
    have n1 := hL.n1
    have n10 := hL.n10
    have l20 := hL.l20
    obtain ⟨N, rfl⟩ : ∃ N : Nat, n = N := ⟨n.toNat, by omega⟩
    have hN1 : 1 ≤ N := by omega
    have hN : N ≤ 10 := by omega
    have HE := Lib.hid (show threads (N : Int) l f = (sumL (fun h => max 1 (oddIn N f l h / 2)) (heads N f l) (heads N f l).length : Nat) by unfold threads; rw [hO, if_pos rfl, Int.toNat_natCast, show heads N f l = membs (isHead f l) N from rfl, sumL_heads])
    obtain ⟨H, hH⟩ : ∃ H, H = heads N f l := ⟨_, rfl⟩
    obtain ⟨O, hOd⟩ : ∃ O, O = odds N f l := ⟨_, rfl⟩
    have HHd := Lib.hid hH
    have HOd := Lib.hid hOd
    obtain ⟨nh, hnh⟩ : ∃ m, m = H.length := ⟨_, rfl⟩
    obtain ⟨no, hno⟩ : ∃ m, m = O.length := ⟨_, rfl⟩
    have HNh := Lib.hid hnh
    have HNo := Lib.hid hno
    have nh10 : nh ≤ 10 := by rw [hnh, hH]; exact Nat.le_trans (membs_len _ _) hN
    have no10 : no ≤ 10 := by rw [hno, hOd]; exact Nat.le_trans (membs_len _ _) hN
    have HHm := Lib.hid (show ∀ j, j < nh → ∃ v : Nat, v < N ∧ nth H j = (v : Int) by intro j hj; have e := nth_mem (zs := H) (i := j) (by omega); rw [hH] at e; obtain ⟨v, h1, _, h2⟩ := membs_lt.1 e; exact ⟨v, h1, by rw [hH]; exact h2⟩)
    have HOm := Lib.hid (show ∀ j, j < no → ∃ v : Nat, v < N ∧ nth O j = (v : Int) by intro j hj; have e := nth_mem (zs := O) (i := j) (by omega); rw [hOd] at e; obtain ⟨v, h1, _, h2⟩ := membs_lt.1 e; exact ⟨v, h1, by rw [hOd]; exact h2⟩)
    have HCn := Lib.hid (fun hd => show cntL (fun x => part_ f l x == hd) O no = oddIn N f l hd by rw [hno, hOd]; exact cntL_membs (isOdd f l) _ N)
    have HO := Lib.hid hO
    have HK := Lib.hid hL.ok
    clear hO hL hH hOd hnh hno
    go_enter Try.func9, Try.ntmps9
    go_wp2_with fail
    refine (impl_linesOk N A l c f B w h hB).mono ?_
    rintro e w1 ⟨rfl, hb1⟩
    rw [HO.out]
    have z1 := hb1.size
    go_wp2_with fail
    refine (impl_parts N A l c f B w1 (h.keep fun p hp => hb1.cell (by omega)) (by omega) hN1 hN l20 HK.out).mono ?_
    rintro e w2 ⟨gT, cT, rfl, oT, hb2'⟩
    have hb2 := hb1.trans (hb2'.mono z1)
    have z2 := hb2'.size
    clear hb2' hb1
    go_wp2_with fail
    refine (impl_heads N A l c f B w2 (h.keep fun p hp => hb2.cell (by omega)) (by omega) hN1 hN l20 HK.out).mono ?_
    rintro e w3 ⟨AH, cH, rfl, oH, hb3'⟩
    rw [← HHd.out] at oH ⊢
    rw [← HNh.out] at oH ⊢
    have hb3 := hb2.trans (hb3'.mono (by omega))
    have z3 := hb3'.size
    have oT3 := oT.keep hb3'
    have hgT := oT3.ge.2
    clear hb3' hb2 oT
    have rH : RowI .i64 w3 w3.heap.size AH nh cH H := oH.rowI fun z hz => by
      obtain ⟨j, hj, e⟩ := List.getElem_of_mem hz
      obtain ⟨v, hv, e2⟩ := HHm.out j (by have e3 := HNh.out; omega)
      rw [nth_eq hj, e] at e2
      rw [e2]
      exact WalkArith.wf_i64 (by omega)
    clear oH
    go_wp2_with fail
    go_loopw [5, 8, 9, 11, 23] (fun t _ _ _ i wr => ∃ j : Nat, j ≤ nh ∧ i = .int .i64 j ∧ t = .int .i64 (sumL (fun h => max 1 (oddIn N f l h / 2)) H j : Nat) ∧ Hid (sumL (fun h => max 1 (oddIn N f l h / 2)) H j ≤ 11 * j) ∧ Below w3.heap.size w3 wr) (fun _ _ _ _ i _ => nh - (intOf i).toNat)
    case atStart => exact ⟨0, by omega, rfl, rfl, Lib.hid (Nat.le_refl _), Below.refl _ _⟩
    case round =>
      obtain ⟨j, hj, rfl, rfl, hbd, hb⟩ := hrel
      have hbw := hb.size
      by_cases hjl : j < nh
      · have j0 : (0 : Int) ≤ (j : Int) := by omega
        have j3 : (j : Int) < (nh : Int) := by omega
        obtain ⟨bh, oh, rfl, hbh, hch⟩ := rH.at_ hjl
        obtain ⟨hd, hdN, hde⟩ := HHm.out j hjl
        rw [hde] at hch
        have x0 := (hb.cell (p := ⟨bh, oh + j, none⟩) hbh).trans hch
        have HDE := Lib.hid hde
        clear hde hch
        go_wp2_with fail
        have hbx := hb3.trans (hb.mono (by omega))
        refine (impl_odd N A l c f B wr (h.keep fun p hp => hbx.cell (by omega)) (by omega) hN l20 HK.out).mono ?_
        rintro e w4 ⟨AO, cO, rfl, oO, hb4'⟩
        rw [← HOd.out] at oO ⊢
        rw [← HNo.out] at oO ⊢
        have hb4 := hb.trans (hb4'.mono hbw)
        have z4 := hb4'.size
        have rO : RowI .i64 w4 w4.heap.size AO no cO O := oO.rowI fun z hz => by
          obtain ⟨j, hj, e⟩ := List.getElem_of_mem hz
          obtain ⟨v, hv, e2⟩ := HOm.out j (by have e3 := HNo.out; omega)
          rw [nth_eq hj, e] at e2
          rw [e2]
          exact WalkArith.wf_i64 (by omega)
        have oT4 := oT3.below hb4 (by intro q hq; simp [Value.ownBlock] at hq; omega)
        clear oO hb4' hb hbx x0
        go_wp2_with fail
        go_loop [9, 11, 31] (fun q _ i => ∃ k : Nat, k ≤ no ∧ i = .int .i64 k ∧ q = .int .i64 (cntL (fun x => part_ f l x == hd) O k : Nat)) (fun _ _ i => no - (intOf i).toNat)
        case atStart => exact ⟨0, by omega, rfl, rfl⟩
        case round =>
          obtain ⟨k, hk, rfl, rfl⟩ := hrel
          by_cases hkl : k < no
          · have k0 : (0 : Int) ≤ (k : Int) := by omega
            have k3 : (k : Int) < (no : Int) := by omega
            obtain ⟨bo, oo, rfl, hbo, hco⟩ := rO.at_ hkl
            obtain ⟨v, hvN, hve⟩ := HOm.out k hkl
            rw [hve] at hco
            have v0 : (0 : Int) ≤ (v : Int) := by omega
            have v3 : (v : Int) < (N : Int) := by omega
            have ht := oT4.cellAt (j := v) (by rw [labs_len]; exact hvN)
            rw [labs_nth _ hvN] at ht
            obtain ⟨u, huu⟩ : ∃ u, u = part_ f l v := ⟨_, rfl⟩
            rw [← huu] at ht
            have hcb := cntL_bd (fun x => part_ f l x == hd) O k
            obtain ⟨C, hC⟩ : ∃ C, C = cntL (fun x => part_ f l x == hd) O k := ⟨_, rfl⟩
            rw [← hC] at hcb ⊢
            by_cases e : u = hd
            · have HS := Lib.hid (show cntL (fun x => part_ f l x == hd) O (k + 1) = C + 1 by simp only [cntL, hve, Int.toNat_natCast]; rw [← hC]; simp [← huu, e])
              have t3 : ((u : Int) == (hd : Int)) = true := by simp [e]
              have t4 : (u == hd) = true := by simp [e]
              clear e hC huu hve
              go_wp2
              go_round
              case rel => exact ⟨k + 1, by omega, by go_num, by rw [HS.out]; go_num⟩
              case measure => simp [intOf]; omega
            · have HS := Lib.hid (show cntL (fun x => part_ f l x == hd) O (k + 1) = C by simp only [cntL, hve, Int.toNat_natCast]; rw [← hC]; simp [← huu, e])
              have t3 : ((u : Int) == (hd : Int)) = false := by simp; omega
              have t4 : (u == hd) = false := by simp [e]
              clear e hC huu hve
              go_wp2
              go_round
              case rel => exact ⟨k + 1, by omega, by go_num, by rw [HS.out]⟩
              case measure => simp [intOf]; omega
          · have k3 : ¬ (k : Int) < (no : Int) := by omega
            have HQ := Lib.hid (show cntL (fun x => part_ f l x == hd) O k = oddIn N f l hd by rw [← HCn.out hd, show k = no by omega])
            rw [HQ.out]
            have hob : oddIn N f l hd ≤ 10 := Nat.le_trans (cnt_le _ _) hN
            obtain ⟨D, hD⟩ : ∃ D, D = oddIn N f l hd := ⟨_, rfl⟩
            obtain ⟨T, hT⟩ : ∃ T, T = sumL (fun h => max 1 (oddIn N f l h / 2)) H j := ⟨_, rfl⟩
            have hb0 := hbd.out
            rw [← hT] at hb0 ⊢
            rw [← hD] at hob ⊢
            have HS := Lib.hid (show sumL (fun h => max 1 (oddIn N f l h / 2)) H (j + 1) = T + max 1 (D / 2) by simp only [sumL]; rw [HDE.out, Int.toNat_natCast, ← hT, ← hD])
            have HB := Lib.hid (show sumL (fun h => max 1 (oddIn N f l h / 2)) H (j + 1) ≤ 11 * (j + 1) by rw [HS.out]; omega)
            obtain ⟨D2, hD2⟩ : ∃ q, q = D / 2 := ⟨_, rfl⟩
            have t5 : (D : Int).tdiv 2 = (D2 : Int) := by rw [Int.tdiv_eq_ediv_of_nonneg (by omega)]; omega
            have t6 : IntKind.i64.wrap (D2 : Int) = (D2 : Int) := IntWalk.i64_in _ (by omega)
            rw [← hD2] at HS
            have hD3 : D2 ≤ 5 := by omega
            clear hD2 hD hT
            rcases (by omega : D2 = 0 ∨ D2 = 1 ∨ 1 < D2) with r | r | r
            · subst r
              have HM := Lib.hid (show sumL (fun h => max 1 (oddIn N f l h / 2)) H (j + 1) = T + 1 by rw [HS.out]; omega)
              go_wp2
              go_roundw
              case rel => exact ⟨j + 1, by omega, by go_num, by rw [HM.out]; go_num, HB, hb4⟩
              case measure => simp [intOf]; omega
            · subst r
              have HM := Lib.hid (show sumL (fun h => max 1 (oddIn N f l h / 2)) H (j + 1) = T + 1 by rw [HS.out]; omega)
              go_wp2
              go_roundw
              case rel => exact ⟨j + 1, by omega, by go_num, by rw [HM.out]; go_num, HB, hb4⟩
              case measure => simp [intOf]; omega
            · have HM := Lib.hid (show sumL (fun h => max 1 (oddIn N f l h / 2)) H (j + 1) = T + D2 by rw [HS.out]; omega)
              have r2 : ¬ (D2 : Int) < 1 := by omega
              go_wp2
              go_roundw
              case rel => exact ⟨j + 1, by omega, by go_num, by rw [HM.out]; go_num, HB, hb4⟩
              case measure => simp [intOf]; omega
      · have j3 : ¬ (j : Int) < (nh : Int) := by omega
        have HF2 := Lib.hid (show sumL (fun h => max 1 (oddIn N f l h / 2)) H j = sumL (fun h => max 1 (oddIn N f l h / 2)) H H.length by rw [← HNh.out, show j = nh by omega])
        have hb9 := hb3.trans (hb.mono (by omega))
        go_wp2
        go_ret
        exact ⟨ret_int (by rw [HE.out, ← HHd.out, HF2.out]), hb9⟩
  · have HE := Lib.hid (show threads n l f = -1 by unfold threads; rw [hO]; rfl)
    go_enter Try.func9, Try.ntmps9
    go_wp2_with fail
    refine (impl_linesOk n A l c f B w h hB).mono ?_
    rintro e w1 ⟨rfl, hb1⟩
    rw [hO]
    go_wp2
    go_ret
    exact ⟨ret_int HE.out.symm, hb1⟩
end Go.Proofs.Ytkgabnhfjmldbaa
