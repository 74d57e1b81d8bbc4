/- Contracts of the reference's OddPoints and OneThread. -/
import Derived.Test.YtkgabnhfjmldbaaOne
import Derived.Test.YtkgabnhfjmldbaaThrU
namespace Go.Proofs.Ytkgabnhfjmldbaa
open Go.ChangeShapes Go.WideShapes Go.ChangeAt Go.RowKit
set_option maxHeartbeats 8000000 in
theorem spec_oddPts (N : Nat) (A : Option Addr) (l c : Nat) (f : Nat → Nat → Int) (B : Nat) (w : World) (h : RowP 2 w B A l c f) (hO : linesOk N l f = true) (hB : B ≤ w.heap.size) (hN : N ≤ 10) (hl : l ≤ 20) (hf : ∀ k, k < l → 0 ≤ f k 0 ∧ f k 0 < N ∧ 0 ≤ f k 1 ∧ f k 1 < N ∧ f k 0 ≠ f k 1) :
    Calls Try.prog 31 #[.int .i64 N, .slice A l c] w fun e w' => ∃ A2 c2, e = .returned (.slice A2 (odds N f l).length c2) ∧ OwnI w' w.heap.size (.slice A2 (odds N f l).length c2) (odds N f l) ∧ Below w.heap.size w w' := by
  have HF := Lib.hid hf
  have HOK := Lib.hid hO
  clear hO
  clear hf
  obtain ⟨P, hP⟩ : ∃ P, P = isOdd f l := ⟨_, rfl⟩
  have HP := Lib.hid hP
  have HL := Lib.hid (show odds N f l = membs P N by rw [hP]; rfl)
  rw [HL.out]
  clear hP
  obtain ⟨wz, hwz⟩ : ∃ wz, wz = w.alloc (.cells #[] 3) := ⟨_, rfl⟩
  have hbz : Below w.heap.size w wz := by rw [hwz]; exact (Below.refl _ _).alloc (Nat.le_refl _) _
  have hoz : OwnI wz w.heap.size (.slice (some ⟨w.heap.size, 0, none⟩) 0 0) [] := by rw [hwz]; exact own_empty w
  have hzs : w.heap.size < wz.heap.size := by rw [hwz]; simp
  go_enter Try.func31, Try.ntmps31
  go_wp2_with fail
  rw [← hwz]
  clear hwz
  refine (spec_linesOk N A l c f B wz (h.keep fun p hp => hbz.cell (by omega)) (by omega)).mono ?_
  rintro e w1 ⟨rfl, hb1⟩
  rw [HOK.out]
  have s1 := hb1.size
  have hb1w := hbz.trans (hb1.mono (by omega))
  go_wp2_with fail
  refine (spec_ends N A l c f B w1 (h.keep fun p hp => hb1w.cell (by omega)) (by omega) hN hl HF.out).mono ?_
  rintro e w2 ⟨rfl, oD, hb2'⟩
  have s2 := hb2'.size
  have hb2 := hb1w.trans (hb2'.mono (by omega))
  obtain ⟨gD, hgD⟩ : ∃ g, g = w1.heap.size := ⟨_, rfl⟩
  have hgD2 : gD < w2.heap.size := by have := oD.ge; omega
  have hgD3 : w.heap.size < gD := by omega
  have hoz2 : OwnI w2 w.heap.size (.slice (some ⟨w.heap.size, 0, none⟩) 0 0) [] := (hoz.keep hb1).below hb2' (by intro k hk; simp [Value.ownBlock] at hk; omega)
  rw [← hgD] at oD ⊢
  clear hgD hoz hbz hb2' h hb1 hb1w
  go_wp2_with fail
  go_loopw [5, 7] (fun v i wr => ∃ (k : Nat) (A2 : Option Addr) (m c2 : Nat), k ≤ N ∧ i = .int .i64 k ∧ v = .slice A2 m c2 ∧ Hid ((membs P k).length = m) ∧ Hid (OwnI wr w2.heap.size (.slice A2 m c2) (membs P k) ∨ (m = 0 ∧ A2 = some ⟨w.heap.size, 0, none⟩ ∧ c2 = 0)) ∧ Below w2.heap.size w2 wr) (fun _ i _ => N - (intOf i).toNat)
  case atStart => exact ⟨0, _, 0, 0, by omega, rfl, rfl, Lib.hid rfl, Lib.hid (.inr ⟨rfl, rfl, rfl⟩), Below.refl _ _⟩
  case round =>
    obtain ⟨k, A2, m, c2, hk, rfl, rfl, hlen, hZ, hb⟩ := hrel
    have hbw := hb.size
    have hml : m ≤ 10 := by have := hlen.out; have := membs_len P k; omega
    have HMs := Lib.hid (membs_succ P k)
    by_cases hkl : k < N
    · have k0 : (0 : Int) ≤ (k : Int) := by omega
      have k3 : (k : Int) < (N : Int) := by omega
      have hd := ((oD.below hb (by intro q hq; simp [Value.ownBlock] at hq; omega)).cellAt (j := k) (by rw [degs_len]; exact hkl))
      rw [degs_nth f l hkl] at hd
      obtain ⟨d, hdd⟩ : ∃ d, d = degTo f k l := ⟨_, rfl⟩
      have hdb := degTo_bd f k l
      rw [← hdd] at hd hdb
      have HD := Lib.hid hdd
      clear hdd
      have hz0 : (OwnI (wr.alloc (.cells #[.int .i64 k] 3)) w2.heap.size (.slice A2 m c2) (membs P k) ∨ (membs P k = [] ∧ ∃ A, (Value.slice A2 m c2) = .slice (some A) 0 0)) := by
        rcases hZ.out with h | ⟨rfl, rfl, rfl⟩
        · exact .inl (h.alloc _)
        · exact .inr ⟨List.length_eq_zero_iff.1 hlen.out, _, rfl⟩
      rcases (by omega : d % 2 = 1 ∨ d % 2 = 0) with r | r
      · have HPk := Lib.hid (show P k = true by rw [HP.out]; unfold isOdd; rw [← HD.out, r]; rfl)
        have t1 : (d : Int).tmod 2 = 1 := by rw [Int.tmod_eq_emod_of_nonneg (by omega)]; omega
        have HS := Lib.hid (show membs P (k + 1) = membs P k ++ [(k : Int)] by rw [HMs.out, if_pos HPk.out])
        have HLs := Lib.hid (show (membs P (k + 1)).length = m + 1 by rw [HS.out, List.length_append, hlen.out]; rfl)
        go_wp2_with (at_builtin; refine app_shapeZ rfl _ _ rfl w2.heap.size _ (membs P k) (k : Int) wr.heap.size m hlen.out rfl hz0 rfl (heap_alloc_new wr _) (by rw [hlen.out]; omega) (by simp; omega) ?_; intro A4 c4 w4 ho4 hb4)
        have hb5 := (hb.alloc hbw (.cells #[.int .i64 k] 3)).trans hb4
        rw [← HS.out] at ho4
        clear hb4 hz0
        go_roundw
        case rel => exact ⟨k + 1, A4, m + 1, c4, by omega, by go_num, rfl, HLs, Lib.hid (.inl ho4), hb5⟩
        case measure => simp [intOf]; omega
      · have HPk := Lib.hid (show P k = false by rw [HP.out]; unfold isOdd; rw [← HD.out, r]; rfl)
        have t1 : (d : Int).tmod 2 = 0 := by rw [Int.tmod_eq_emod_of_nonneg (by omega)]; omega
        have HS := Lib.hid (show membs P (k + 1) = membs P k by rw [HMs.out, if_neg (by rw [HPk.out]; simp), List.append_nil])
        have HLs := Lib.hid (show (membs P (k + 1)).length = m by rw [HS.out, hlen.out])
        have HZs := Lib.hid (show OwnI wr w2.heap.size (.slice A2 m c2) (membs P (k + 1)) ∨ (m = 0 ∧ A2 = some ⟨w.heap.size, 0, none⟩ ∧ c2 = 0) by rw [HS.out]; exact hZ.out)
        clear hz0 hZ
        go_wp2
        go_roundw
        case rel => exact ⟨k + 1, A2, m, c2, by omega, by go_num, rfl, HLs, HZs, hb⟩
        case measure => simp [intOf]; omega
    · have HE := Lib.hid (show membs P k = membs P N by rw [show k = N by omega])
      have hf : OwnI wr w.heap.size (.slice A2 m c2) (membs P k) := by
        rcases hZ.out with h | ⟨rfl, rfl, rfl⟩
        · exact h.base (by omega)
        · rw [List.length_eq_zero_iff.1 hlen.out]
          exact hoz2.below hb (by intro q hq; simp [Value.ownBlock] at hq; omega)
      have HLn := Lib.hid (show m = (membs P N).length by rw [← HE.out]; exact hlen.out.symm)
      rw [HE.out] at hf
      have k3 : ¬ (k : Int) < (N : Int) := by omega
      have hb9 := hb2.trans (hb.mono (by omega))
      clear hoz2
      go_wp2
      go_ret
      rw [← HLn.out]
      exact ⟨A2, c2, rfl, hf, hb9⟩
/-- the least point from j on that has lines, -1 where there is none -/
def Least (f : Nat → Nat → Int) (l N j : Nat) (a : Int) : Prop := (a = -1 ∧ ∀ p, j ≤ p → p < N → degTo f p l = 0) ∨ ∃ q : Nat, a = q ∧ j ≤ q ∧ q < N ∧ 0 < degTo f q l ∧ ∀ p, j ≤ p → p < q → degTo f p l = 0
theorem least_end (f : Nat → Nat → Int) (l N : Nat) : Least f l N N (-1) := .inl ⟨rfl, fun p h1 h2 => by omega⟩
theorem least_yes {f : Nat → Nat → Int} {l N j : Nat} (hj : j < N) (h : 0 < degTo f j l) : Least f l N j j := .inr ⟨j, rfl, Nat.le_refl _, hj, h, fun p h1 h2 => by omega⟩
theorem least_no {f : Nat → Nat → Int} {l N j : Nat} {a : Int} (h : degTo f j l = 0) (hL : Least f l N (j + 1) a) : Least f l N j a := by
  rcases hL with ⟨e, h1⟩ | ⟨q, e, h1, h2, h3, h4⟩
  · exact .inl ⟨e, fun p h2 h3 => by
      rcases (by omega : p = j ∨ j + 1 ≤ p) with rfl | q
      · exact h
      · exact h1 p q h3⟩
  · exact .inr ⟨q, e, by omega, h2, h3, fun p h5 h6 => by
      rcases (by omega : p = j ∨ j + 1 ≤ p) with rfl | r
      · exact h
      · exact h4 p r h6⟩
theorem least_is {f : Nat → Nat → Int} {l N v : Nat} {a : Int} (hL : Least f l N 0 a) (hv : v < N) (hd : 0 < degTo f v l) (hz : ∀ i, i < v → degTo f i l = 0) : a = v := by
  rcases hL with ⟨_, h1⟩ | ⟨q, e, _, h2, h3, h4⟩
  · have := h1 v (by omega) hv; omega
  · rcases (by omega : q < v ∨ q = v ∨ v < q) with r | r | r
    · have := hz q r; omega
    · rw [e, r]
    · have := h4 v (by omega) r; omega
theorem least_bd {f : Nat → Nat → Int} {l N j : Nat} {a : Int} (hL : Least f l N j a) : -1 ≤ a ∧ a ≤ N := by
  rcases hL with ⟨e, _⟩ | ⟨q, e, _, h2, _⟩ <;> omega
set_option maxRecDepth 100000 in
set_option maxHeartbeats 8000000 in
theorem spec_one (n : Int) (A : Option Addr) (l c : Nat) (f : Nat → Nat → Int) (B : Nat) (w : World) (h : RowP 2 w B A l c f) (hB : B ≤ w.heap.size) :
    Calls Try.prog 11 #[.int .i64 n, .slice A l c] w (OnePost n l f w) := by
  rcases (Bool.eq_false_or_eq_true (oneTh n l f)).symm with hT | hT
  · have HT := Lib.hid hT
    have HW := Lib.hid (oneW_no hT)
    obtain ⟨T, hTT⟩ : ∃ T, T = threads n l f := ⟨_, rfl⟩
    have d1 : (T == 1) = false := by rw [hTT]; exact hT
    have d2 : (T != 1) = true := by simp only [bne, d1, Bool.not_false]
    clear hT
    go_enter Try.func11, Try.ntmps11
    go_wp2_with fail
    refine (spec_threads n A l c f B w h hB).mono ?_
    rintro e w1 ⟨rfl, b1⟩
    rw [← hTT]
    clear hTT
    have bz := b1.trans (((Below.refl w1.heap.size w1).alloc (Nat.le_refl _) (.cells #[] 3)).mono b1.size)
    have oz := (own_empty w1).base (show w.heap.size ≤ w1.heap.size from b1.size)
    go_wp2
    go_ret2
    exact ⟨_, 0, by rw [HW.out, HT.out]; rfl, by rw [HW.out]; exact oz, bz⟩
  obtain ⟨hL, hin, h1⟩ := oneTh_t hT
  have n1 := hL.n1
  have n10 := hL.n10
  have hl := hL.l20
  obtain ⟨N, rfl⟩ : ∃ N : Nat, n = N := ⟨n.toNat, by omega⟩
  rw [Int.toNat_natCast] at hin h1
  have hN1 : 1 ≤ N := by omega
  have hN : N ≤ 10 := by omega
  obtain ⟨v, hv, hst, hg, hd, hz⟩ := start_go hin h1
  obtain ⟨hh, ho⟩ := thr_is_one hin h1
  have HW := Lib.hid (show oneW N l f = (v : Int) :: walkL N l f v by unfold oneW; rw [if_pos hT, Int.toNat_natCast, hst, Int.toNat_natCast])
  have HT := Lib.hid hT
  have HTH := Lib.hid (show threads N l f = 1 from beq_iff_eq.1 hT)
  have hl1 : 0 < l := by
    rcases Nat.eq_zero_or_pos l with q | q
    · rw [q] at hd; simp [degTo] at hd
    · exact q
  have HH := Lib.hid (show (heads N f l).length = 1 by unfold heads; rw [membs_cnt]; exact hh)
  have HOL := Lib.hid (show (odds N f l).length = cnt (isOdd f l) N by unfold odds; rw [membs_cnt])
  have HS2 := Lib.hid (show cnt (isOdd f l) N = 2 → nth (odds N f l) 0 = (v : Int) by
    intro q; rw [← hst]; unfold start; rw [if_pos (by omega)])
  have HIN := Lib.hid hin
  have HG := Lib.hid hg
  have HZ := Lib.hid hz
  have HOKL := Lib.hid (show linesOk N l f = true by
    rcases (Bool.eq_false_or_eq_true (linesOk N l f)).symm with q | q
    · have := HTH.out; unfold threads at this; rw [q] at this; simp at this
    · exact q)
  have HD0 := Lib.hid hd
  clear hT hst hh h1 n1 n10 hL hg hz hin hd
  obtain ⟨ad, off, rfl⟩ : ∃ ad off, A = some ⟨ad, off, none⟩ := by obtain ⟨b, off, e, _⟩ := h.at_ hl1; exact ⟨b, off, e⟩
  go_enter Try.func11, Try.ntmps11
  go_wp2_with fail
  refine (spec_threads N _ l c f B w h hB).mono ?_
  rintro e w1 ⟨rfl, b1⟩
  rw [HTH.out]
  go_wp2_with fail
  refine (spec_ends N _ l c f B w1 (h.below' b1 hB) (by have := b1.size; omega) hN hl HIN.out).mono ?_
  rintro e w2 ⟨rfl, oD, b2⟩
  have b3 := b1.trans (b2.mono b1.size)
  obtain ⟨gD, hgD⟩ : ∃ g, g = w1.heap.size := ⟨_, rfl⟩
  rw [← hgD] at oD ⊢
  clear hgD b1 b2
  have w0 : IntKind.i64.wrap ((N : Int) - 1) = (N : Int) - 1 := IntWalk.i64_in _ (by omega)
  go_wp2_with fail
  go_loopw [7, 8] (fun av kv wr => ∃ (j : Nat) (a : Int), j ≤ N ∧ kv = .int .i64 ((j : Int) - 1) ∧ av = .int .i64 a ∧ Hid (Least f l N j a) ∧ OwnI wr gD (.slice (some ⟨gD, 0, none⟩) N N) (degs N f l) ∧ Below w.heap.size w wr) (fun _ kv _ => (intOf kv + 1).toNat)
  case atStart => exact ⟨N, -1, Nat.le_refl _, rfl, rfl, Lib.hid (least_end f l N), oD, b3⟩
  case round =>
    clear oD b3 w0
    obtain ⟨j, a, hj, rfl, rfl, HLE, oD, hb⟩ := hrel
    rcases (by omega : 0 < j ∨ j = 0) with q | q
    · obtain ⟨m, rfl⟩ : ∃ m, j = m + 1 := ⟨j - 1, by omega⟩
      rw [show ((m + 1 : Nat) : Int) - 1 = (m : Int) by omega]
      have hd := oD.cellAt (j := m) (by rw [degs_len]; omega)
      rw [degs_nth f l (by omega)] at hd
      have hdb := degTo_bd f m l
      obtain ⟨d, hdd⟩ : ∃ d, d = degTo f m l := ⟨_, rfl⟩
      rw [← hdd] at hd hdb
      have HDD := Lib.hid hdd
      have m0 : (0 : Int) ≤ (m : Int) := by omega
      have m1 : (m : Int) < (N : Int) := by omega
      have m2 : m < N := by omega
      have w1 : IntKind.i64.wrap ((m : Int) - 1) = (m : Int) - 1 := IntWalk.i64_in _ (by omega)
      clear hdd
      rcases (by omega : 0 < d ∨ d = 0) with r | r
      · have r1 : (0 : Int) < (d : Int) := by omega
        have HL2 := Lib.hid (least_yes (f := f) (l := l) m2 (by rw [← HDD.out]; exact r))
        go_wp2
        go_roundw
        case rel => exact ⟨m, m, by omega, rfl, rfl, HL2, oD, hb⟩
        case measure => simp [intOf]
      · subst r
        have HL2 := Lib.hid (least_no HDD.out.symm HLE.out)
        go_wp2
        go_roundw
        case rel => exact ⟨m, a, by omega, rfl, rfl, HL2, oD, hb⟩
        case measure => simp [intOf]
    subst q
    have hab := least_bd HLE.out
    have hbz := hb.size
    go_wp2_with fail
    clear oD
    refine (spec_oddPts N _ l c f B wr (h.below' hb hB) HOKL.out (by omega) hN hl HIN.out).mono ?_
    rintro e w3 ⟨A3, c3, rfl, o3, b4⟩
    have b5 := hb.trans (b4.mono hbz)
    rw [HOL.out] at o3 ⊢
    have hE : OwnS 2 43 ((w3.alloc (.cells #[.int .i64 v] 3)).alloc (.cells #[] 43)) (w3.heap.size + 1) (.slice (some ⟨w3.heap.size + 1, 0, none⟩) 0 0) 0 f := by simpa using ownS_empty 2 43 (w3.alloc (.cells #[.int .i64 (v : Int)] 3)) f
    have hU : OwnI ((w3.alloc (.cells #[.int .i64 v] 3)).alloc (.cells #[] 43)) w3.heap.size (.slice (some ⟨w3.heap.size, 0, none⟩) 1 1) [(v : Int)] := (own_one w3 v).alloc _
    have bW : Below w.heap.size w ((w3.alloc (.cells #[.int .i64 v] 3)).alloc (.cells #[] 43)) := (b5.alloc b5.size _).alloc (by have := b5.size; simp; omega) _
    have HNW := Lib.hid (news_rowP (by decide) (h.below' bW hB))
    have z3 := b5.size
    clear b4 h hB hb
    rcases ho with ho | ho
    · rw [ho] at o3 ⊢
      clear o3
      obtain rfl : a = (v : Int) := least_is HLE.out hv HD0.out (HZ.out ho).2
      have HO0 := Lib.hid ho
      clear ho
      go_wp2_with (at_builtin; refine appL_plain (by rfl) _ _ (by rfl) (w3.heap.size + 1) 0 l c l _ f f f ⟨ad, off, none⟩ (by rfl) hE (by rfl) HNW.out (by omega) (fun i _ j _ => catS_zero f f i j) (by omega) (by simp) ?_; intro A5 c5 w5 ho5 hg5)
      have hu5 := OwnI.apart (A' := some ⟨w3.heap.size + 1, 0, none⟩) hU hg5 (own_ne (by decide) hU hE)
      have b6 : Below w.heap.size w w5 := bW.grown hg5 (by simp; omega) (fun k hk => by cases hk; show w.heap.size ≤ w3.heap.size + 1; omega)
      replace ho5 := ho5.base_ (show w.heap.size ≤ w3.heap.size + 1 by omega)
      replace hu5 := hu5.base (show w.heap.size ≤ w3.heap.size by omega)
      clear hE hU bW hg5 b5
      go_loopw [7, 10, 11] (fun nv ov lv wr => ∃ (L v' : Nat) (F : Nat → Nat → Int) (A1 A2 : Option Addr) (c1 c2 : Nat) (D : List Int), nv = .int .i64 v' ∧ ov = .slice A1 (l + 1 - L) c1 ∧ lv = .slice A2 L c2 ∧ L ≤ l ∧ v' < N ∧ Hid (inN N F L) ∧ Hid (canGo N F L v' = true) ∧ Hid (oneW N l f = D ++ walkL N L F v') ∧ Hid (D.length = l + 1 - L) ∧ OwnI wr w.heap.size (.slice A1 (l + 1 - L) c1) D ∧ OwnS 2 43 wr w.heap.size (.slice A2 L c2) L F ∧ Below w.heap.size w wr) (fun _ _ lv _ => lenOf lv)
      case atStart => exact ⟨l, v, f, _, _, 1, c5, [(v : Int)], rfl, by rw [show l + 1 - l = 1 by omega], rfl, Nat.le_refl _, hv, HIN, HG, Lib.hid (by rw [HW.out]; rfl), Lib.hid (by simp <;> omega), by rw [show l + 1 - l = 1 by omega]; exact hu5, ho5, b6⟩
      case round =>
        clear ho5 hu5 b6
        obtain ⟨L, v', F, A1, A2, c1, c2, D, rfl, rfl, rfl, hLl, hv', HI, HC, HD, HDL, oU, oL, hb⟩ := hrel
        have hbz := hb.size
        rcases (by omega : L = 0 ∨ 0 < L) with q0 | q0
        · subst q0
          have HD2 := Lib.hid (show oneW N l f = D by rw [HD.out]; simp [walkL])
          go_wp2
          go_ret2
          exact ⟨A1, c1, by rw [HD2.out, HDL.out, HT.out]; rfl, by rw [HD2.out, HDL.out]; exact oU, hb⟩
        have HLl := Lib.hid hLl
        obtain ⟨G, rfl⟩ := oL.some_ q0
        obtain ⟨t0, k0, hbst, ht0, hk0, hN3⟩ := best_next HI.out hv' q0 HC.out
        have HB := Lib.hid hbst
        have HN3 := Lib.hid hN3
        have q1 : (0 : Int) < (L : Int) := by omega
        clear hbst
        go_wp2_with fail
        go_loopw [7, 10, 11, 12, 13] (fun nv ov lv fv tv wx => Below w.heap.size w wx ∧ ∃ T : Nat, T ≤ N ∧ tv = .int .i64 T ∧ ((fv = .bool false ∧ nv = .int .i64 v' ∧ ov = .slice A1 (l + 1 - L) c1 ∧ lv = .slice (some ⟨G, 0, none⟩) L c2 ∧ Hid (∀ i, i < L → okAt N F L v' i = true → (T : Int) ≤ other (F i) v') ∧ OwnI wx w.heap.size (.slice A1 (l + 1 - L) c1) D ∧ OwnS 2 43 wx w.heap.size (.slice (some ⟨G, 0, none⟩) L c2) L F) ∨ (fv = .bool true ∧ ∃ (t k : Nat) (A7 A8 : Option Addr) (c7 c8 : Nat), nv = .int .i64 t ∧ ov = .slice A7 (l + 1 - L + 1) c7 ∧ lv = .slice A8 (L - 1) c8 ∧ t < N ∧ k < L ∧ Hid (IsNext N F L v' t k) ∧ OwnI wx w.heap.size (.slice A7 (l + 1 - L + 1) c7) (D ++ [(t : Int)]) ∧ OwnS 2 43 wx w.heap.size (.slice A8 (L - 1) c8) (L - 1) (rem F k)))) (fun _ _ _ fv tv _ => match fv with | .bool true => 0 | _ => N + 1 - (intOf tv).toNat)
        case atStart => exact ⟨hb, 0, by omega, rfl, .inl ⟨rfl, rfl, rfl, rfl, Lib.hid (fun i _ hi => by have := hi; unfold okAt at this; have := of_decide_eq_true (Bool.and_eq_true_iff.1 this).1; omega), oU, oL⟩⟩
        case round =>
          clear oU oL hb hbz
          obtain ⟨hb, T, hT, rfl, hst⟩ := hrel
          have hbz := hb.size
          rcases hst with ⟨rfl, rfl, rfl, rfl, HT3, oU, oL⟩ | ⟨rfl, t, k, A7, A8, c7, c8, rfl, rfl, rfl, ht, hk, HN, oU, oL⟩
          · rcases (by omega : T < N ∨ T = N) with hTN | hTN
            · have T0 : (T : Int) < (N : Int) := by omega
              go_wp2_with fail
              go_loopw [7, 10, 11, 12, 14] (fun nv ov lv fv kv wx => Below w.heap.size w wx ∧ ∃ K : Nat, K ≤ L ∧ kv = .int .i64 K ∧ ((fv = .bool false ∧ nv = .int .i64 v' ∧ ov = .slice A1 (l + 1 - L) c1 ∧ lv = .slice (some ⟨G, 0, none⟩) L c2 ∧ Hid (∀ i, i < K → okAt N F L v' i = true → other (F i) v' ≠ (T : Int)) ∧ OwnI wx w.heap.size (.slice A1 (l + 1 - L) c1) D ∧ OwnS 2 43 wx w.heap.size (.slice (some ⟨G, 0, none⟩) L c2) L F) ∨ (fv = .bool true ∧ ∃ (t k : Nat) (A7 A8 : Option Addr) (c7 c8 : Nat), nv = .int .i64 t ∧ ov = .slice A7 (l + 1 - L + 1) c7 ∧ lv = .slice A8 (L - 1) c8 ∧ t < N ∧ k < L ∧ Hid (IsNext N F L v' t k) ∧ OwnI wx w.heap.size (.slice A7 (l + 1 - L + 1) c7) (D ++ [(t : Int)]) ∧ OwnS 2 43 wx w.heap.size (.slice A8 (L - 1) c8) (L - 1) (rem F k)))) (fun _ _ _ fv kv _ => match fv with | .bool true => 0 | _ => L + 1 - (intOf kv).toNat)
              case atStart => exact ⟨hb, 0, by omega, rfl, .inl ⟨rfl, rfl, rfl, rfl, Lib.hid (fun i hi => by omega), oU, oL⟩⟩
              case round =>
                clear oU oL hb hbz
                obtain ⟨hb, K, hK, rfl, hst⟩ := hrel
                have hbz := hb.size
                rcases hst with ⟨rfl, rfl, rfl, rfl, HT4, oU, oL⟩ | ⟨rfl, t, k, A7, A8, c7, c8, rfl, rfl, rfl, ht, hk, HN, oU, oL⟩
                · rcases (by omega : K < L ∨ K = L) with hKL | hKL
                  · have K0 : (0 : Int) ≤ (K : Int) := by omega
                    have K1 : (K : Int) < (L : Int) := by omega
                    have x0 : wr.cell? ⟨G, K * 2, none⟩ = some (.int .i64 (F K 0)) := oL.cellAt (j := 0) hKL (by omega)
                    have x1 : wr.cell? ⟨G, K * 2 + 1, none⟩ = some (.int .i64 (F K 1)) := oL.cellAt (j := 1) hKL (by omega)
                    have hin2 := HI.out K hKL
                    have HO := Lib.hid (show other (F K) v' = if F K 0 = v' then F K 1 else if F K 1 = v' then F K 0 else -1 from rfl)
                    have zG := oL.ge
                    obtain ⟨P, hP⟩ : ∃ P, P = F K 0 := ⟨_, rfl⟩
                    obtain ⟨Q, hQ⟩ : ∃ Q, Q = F K 1 := ⟨_, rfl⟩
                    rw [← hP] at x0 HO
                    rw [← hQ] at x1 HO
                    rw [← hP, ← hQ] at hin2
                    clear hP hQ
                    rcases (by omega : (P = (v' : Int) ∧ Q = (T : Int)) ∨ (P = (T : Int) ∧ Q = (v' : Int)) ∨ (¬ (P = (v' : Int) ∧ Q = (T : Int)) ∧ ¬ (P = (T : Int) ∧ Q = (v' : Int)))) with ⟨e, e2⟩ | ⟨e, e2⟩ | ⟨e, e2⟩
                    · have HO2 := Lib.hid (show other (F K) v' = (T : Int) by rw [HO.out, if_pos e, e2])
                      subst e e2
                      have hE : OwnS 2 43 (wr.drew.alloc (.cells #[] 43)) wr.heap.size (.slice (some ⟨wr.heap.size, 0, none⟩) 0 0) 0 F := by simpa using ownS_empty 2 43 wr.drew F
                      have hoW := oL.drew.alloc (.cells #[] 43)
                      have huW := oU.drew.alloc (.cells #[] 43)
                      have hbW := hb.drew.alloc (show w.heap.size ≤ wr.drew.heap.size by simp; omega) (.cells #[] 43)
                      have HN1 := Lib.hid (news_own (hoW.pre (show K ≤ L by omega)))
                      have hLc := oL.le
                      obtain ⟨AD, hAD, hAN⟩ := sub_addr (m := 2) (e := 43) (base := w.heap.size) (g := G) (n := L) (c := c2) (lo := K + 1) (f := F) (by decide) hLc
                      have HAN := Lib.hid hAN
                      have HNE : Hid (∀ k, blk (some (⟨G, 0, none⟩ : Addr)) = some k → blk (some (⟨wr.heap.size, 0, none⟩ : Addr)) = some k → False) := Lib.hid fun k hk hk' => by
                        have e1 : G = k := Option.some.inj hk
                        have e2 : wr.heap.size = k := Option.some.inj hk'
                        omega
                      have HCR := Lib.hid (show ∀ i, i < L - 1 → ∀ b, b < 2 → catS F K (fun k => F (K + 1 + k)) i b = rem F K i b from fun i _ b _ => by rw [catS_rem])
                      have HIR : Hid (∀ k, k < L - 1 → 0 ≤ rem F K k 0 ∧ rem F K k 0 < N ∧ 0 ≤ rem F K k 1 ∧ rem F K k 1 < N ∧ rem F K k 0 ≠ rem F K k 1) := Lib.hid (inN_rem HI.out hKL)
                      have HWR := Lib.hid (show ∀ i, i < L - 1 → ∀ b, b < 2 → (Lit.int .i64 (rem F K i b)).wf = true from fun i hi b hb => WalkArith.wf_i64 (by
                        have := HIR.out i hi
                        rcases (by omega : b = 0 ∨ b = 1) with rfl | rfl <;> omega))
                      have hic : K ≤ c2 := by omega
                      have hwr : IntKind.i64.wrap ((K : Int) + 1) = (K : Int) + 1 := IntWalk.i64_in _ (by omega)
                      have hp0 : (0 : Int) ≤ (K : Int) + 1 := by omega
                      have hp1 : (K : Int) + 1 ≤ (L : Int) := by omega
                      have hp2 : ((K : Int) + 1).toNat = K + 1 := by omega
                      have hp3 : (K : Int) ≤ (L : Int) := by omega
                      have HBZ := Lib.hid hbz
                      clear hAN hLc HO hin2
                      go_wp2_with fail
                      go_region_held3 (fun _ => True) (first | go_keep | trivial) (first | (refine appL_drawn (by rfl) (.tmp 90) (.tmp 93) (by rfl) wr.heap.size 0 K c2 K _ F F F ⟨G, 0, none⟩ (by rfl) hE (by rfl) HN1.out (by omega) (fun i _ j _ => catS_zero F F i j) (by omega) (by simp) ?_; intro A7 c7 w7 ho7 hg7; have hL7 := OwnS.apart (A' := some ⟨wr.heap.size, 0, none⟩) hoW hg7 HNE.out; have hU7 := OwnI.apart (A' := some ⟨wr.heap.size, 0, none⟩) huW hg7 (own_ne (by decide) huW hE); have b7 := hbW.grown hg7 (by simp; omega) (fun k hk => by cases hk; exact hbz)) | (refine appL_drawn (by rfl) (.tmp 94) (.tmp 98) (by rfl) wr.heap.size K (L - (K + 1)) (c2 - (K + 1)) (L - 1) _ F (fun k => F (K + 1 + k)) (rem F K) AD (by rfl) ho7 (by rfl) (HAN.out w7 hL7) (by omega) HCR.out (by omega) (by have := hg7.size; simp at this; omega) ?_; intro A8 c8 w8 ho8 hg8; rw [ownBlock_blk] at hg8; have hL8 := OwnS.apart hL7 hg8 (fun k hk hk' => by have e1 : G = k := Option.some.inj hk; have := ho7.ge' k hk'; omega); have hU8 := OwnI.apart hU7 hg8 (own_ne (by decide) hU7 ho7); have b8 := b7.grown hg8 b7.size (fun k hk => by have := ho7.ge' k hk; omega)))
                      clear x0 x1 hAD hE hoW huW hbW hL7 hU7 b7 ho7 hg7 hg8 oU oL hb
                      go_wp2_with fail
                      refine (spec_canGo N T A8 (L - 1) c8 (rem F K) _ _ (ho8.rowP HWR.out) (Nat.le_refl _) hN1 hN (by omega) HIR.out hTN).mono ?_
                      rintro e w9 ⟨rfl, hb9⟩
                      have hL9 := hL8.keep hb9
                      have hU9 := hU8.keep hb9
                      have ho9 := (ho8.keep hb9).base_ HBZ.out
                      have b9 := b8.trans (hb9.mono b8.size)
                      have z9 := b9.size
                      obtain ⟨R, hR⟩ : ∃ R, R = canGo N (rem F K) (L - 1) T := ⟨_, rfl⟩
                      rw [← hR]
                      have HOK := Lib.hid (show okAt N F L v' K = R by rw [okAt_pos HO2.out, hR])
                      clear hR hL8 hU8 ho8 b8 hb9
                      rcases (Bool.eq_false_or_eq_true R).symm with z | z
                      · have HT5 := Lib.hid (show ∀ i, i < K + 1 → okAt N F L v' i = true → other (F i) v' ≠ (T : Int) from fun i hi ho => by
                          rcases (by omega : i < K ∨ i = K) with q | rfl
                          · exact HT4.out i q ho
                          · rw [HOK.out, z] at ho; cases ho)
                        subst z
                        go_wp2
                        go_roundw
                        case rel => exact ⟨b9, K + 1, by omega, by go_num, .inl ⟨rfl, rfl, rfl, rfl, HT5, hU9, hL9⟩⟩
                        case measure => simp [intOf] <;> omega
                      · have HN5 := Lib.hid (show IsNext N F L v' T K from ⟨hKL, by rw [HOK.out, z], HO2.out, HT3.out, fun i hi ho => by
                          have := HT3.out i (by omega) ho
                          have := HT4.out i hi ho
                          omega⟩)
                        subst z
                        have huA := hU9.alloc (.cells #[.int .i64 T] 3)
                        have hoA := ho9.alloc (.cells #[.int .i64 T] 3)
                        have hbA := b9.alloc z9 (.cells #[.int .i64 T] 3)
                        have HNE2 := Lib.hid (own_ne (by decide) huA hoA)
                        clear hU9 ho9 b9 hL9
                        go_wp2_with (at_builtin; refine appI_grown (by rfl) _ _ (by rfl) w.heap.size (l + 1 - L) _ D (T : Int) w9.heap.size HDL.out (by rfl) huA (by rfl) (heap_alloc_new w9 _) (by omega) (by simp; omega) ?_; intro A9 c9 w10 ho10 hg10; rw [ownBlock_blk] at hg10)
                        have hL10 := OwnS.apart hoA hg10 (fun k hk hk' => HNE2.out k hk' hk)
                        have b10 := hbA.grown hg10 (by simp; omega) (fun k hk => (huA.ge' k hk).1)
                        clear hoA huA hbA hg10
                        go_wp2
                        go_roundw
                        case rel => exact ⟨b10, K + 1, by omega, by go_num, .inr ⟨rfl, T, K, A9, A8, c9, c8, rfl, rfl, rfl, hTN, hKL, HN5, ho10, hL10⟩⟩
                        case measure => simp [intOf] <;> omega
                    · have HO2 := Lib.hid (show other (F K) v' = (T : Int) by rw [HO.out, if_neg (by omega), if_pos e2, e])
                      have He3 := Lib.hid (show (v' : Int) ≠ (T : Int) by omega)
                      subst e e2
                      have s1 : ((T : Int) == (v' : Int)) = false := beq_eq_false_iff_ne.2 (fun e => He3.out e.symm)
                      have s2 : ((v' : Int) == (T : Int)) = false := beq_eq_false_iff_ne.2 He3.out
                      have s3 : ¬ (T : Int) = (v' : Int) := fun e => He3.out e.symm
                      have s4 : ¬ (v' : Int) = (T : Int) := He3.out
                      have hE : OwnS 2 43 (wr.drew.alloc (.cells #[] 43)) wr.heap.size (.slice (some ⟨wr.heap.size, 0, none⟩) 0 0) 0 F := by simpa using ownS_empty 2 43 wr.drew F
                      have hoW := oL.drew.alloc (.cells #[] 43)
                      have huW := oU.drew.alloc (.cells #[] 43)
                      have hbW := hb.drew.alloc (show w.heap.size ≤ wr.drew.heap.size by simp; omega) (.cells #[] 43)
                      have HN1 := Lib.hid (news_own (hoW.pre (show K ≤ L by omega)))
                      have hLc := oL.le
                      obtain ⟨AD, hAD, hAN⟩ := sub_addr (m := 2) (e := 43) (base := w.heap.size) (g := G) (n := L) (c := c2) (lo := K + 1) (f := F) (by decide) hLc
                      have HAN := Lib.hid hAN
                      have HNE : Hid (∀ k, blk (some (⟨G, 0, none⟩ : Addr)) = some k → blk (some (⟨wr.heap.size, 0, none⟩ : Addr)) = some k → False) := Lib.hid fun k hk hk' => by
                        have e1 : G = k := Option.some.inj hk
                        have e2 : wr.heap.size = k := Option.some.inj hk'
                        omega
                      have HCR := Lib.hid (show ∀ i, i < L - 1 → ∀ b, b < 2 → catS F K (fun k => F (K + 1 + k)) i b = rem F K i b from fun i _ b _ => by rw [catS_rem])
                      have HIR : Hid (∀ k, k < L - 1 → 0 ≤ rem F K k 0 ∧ rem F K k 0 < N ∧ 0 ≤ rem F K k 1 ∧ rem F K k 1 < N ∧ rem F K k 0 ≠ rem F K k 1) := Lib.hid (inN_rem HI.out hKL)
                      have HWR := Lib.hid (show ∀ i, i < L - 1 → ∀ b, b < 2 → (Lit.int .i64 (rem F K i b)).wf = true from fun i hi b hb => WalkArith.wf_i64 (by
                        have := HIR.out i hi
                        rcases (by omega : b = 0 ∨ b = 1) with rfl | rfl <;> omega))
                      have hic : K ≤ c2 := by omega
                      have hwr : IntKind.i64.wrap ((K : Int) + 1) = (K : Int) + 1 := IntWalk.i64_in _ (by omega)
                      have hp0 : (0 : Int) ≤ (K : Int) + 1 := by omega
                      have hp1 : (K : Int) + 1 ≤ (L : Int) := by omega
                      have hp2 : ((K : Int) + 1).toNat = K + 1 := by omega
                      have hp3 : (K : Int) ≤ (L : Int) := by omega
                      have HBZ := Lib.hid hbz
                      clear hAN hLc HO hin2
                      go_wp2_with fail
                      go_region_held3 (fun _ => True) (first | go_keep | trivial) (first | (refine appL_drawn (by rfl) (.tmp 90) (.tmp 93) (by rfl) wr.heap.size 0 K c2 K _ F F F ⟨G, 0, none⟩ (by rfl) hE (by rfl) HN1.out (by omega) (fun i _ j _ => catS_zero F F i j) (by omega) (by simp) ?_; intro A7 c7 w7 ho7 hg7; have hL7 := OwnS.apart (A' := some ⟨wr.heap.size, 0, none⟩) hoW hg7 HNE.out; have hU7 := OwnI.apart (A' := some ⟨wr.heap.size, 0, none⟩) huW hg7 (own_ne (by decide) huW hE); have b7 := hbW.grown hg7 (by simp; omega) (fun k hk => by cases hk; exact hbz)) | (refine appL_drawn (by rfl) (.tmp 94) (.tmp 98) (by rfl) wr.heap.size K (L - (K + 1)) (c2 - (K + 1)) (L - 1) _ F (fun k => F (K + 1 + k)) (rem F K) AD (by rfl) ho7 (by rfl) (HAN.out w7 hL7) (by omega) HCR.out (by omega) (by have := hg7.size; simp at this; omega) ?_; intro A8 c8 w8 ho8 hg8; rw [ownBlock_blk] at hg8; have hL8 := OwnS.apart hL7 hg8 (fun k hk hk' => by have e1 : G = k := Option.some.inj hk; have := ho7.ge' k hk'; omega); have hU8 := OwnI.apart hU7 hg8 (own_ne (by decide) hU7 ho7); have b8 := b7.grown hg8 b7.size (fun k hk => by have := ho7.ge' k hk; omega)))
                      clear x0 x1 hAD hE hoW huW hbW hL7 hU7 b7 ho7 hg7 hg8 oU oL hb
                      go_wp2_with fail
                      refine (spec_canGo N T A8 (L - 1) c8 (rem F K) _ _ (ho8.rowP HWR.out) (Nat.le_refl _) hN1 hN (by omega) HIR.out hTN).mono ?_
                      rintro e w9 ⟨rfl, hb9⟩
                      have hL9 := hL8.keep hb9
                      have hU9 := hU8.keep hb9
                      have ho9 := (ho8.keep hb9).base_ HBZ.out
                      have b9 := b8.trans (hb9.mono b8.size)
                      have z9 := b9.size
                      obtain ⟨R, hR⟩ : ∃ R, R = canGo N (rem F K) (L - 1) T := ⟨_, rfl⟩
                      rw [← hR]
                      have HOK := Lib.hid (show okAt N F L v' K = R by rw [okAt_pos HO2.out, hR])
                      clear hR hL8 hU8 ho8 b8 hb9
                      rcases (Bool.eq_false_or_eq_true R).symm with z | z
                      · have HT5 := Lib.hid (show ∀ i, i < K + 1 → okAt N F L v' i = true → other (F i) v' ≠ (T : Int) from fun i hi ho => by
                          rcases (by omega : i < K ∨ i = K) with q | rfl
                          · exact HT4.out i q ho
                          · rw [HOK.out, z] at ho; cases ho)
                        subst z
                        go_wp2
                        go_roundw
                        case rel => exact ⟨b9, K + 1, by omega, by go_num, .inl ⟨rfl, rfl, rfl, rfl, HT5, hU9, hL9⟩⟩
                        case measure => simp [intOf] <;> omega
                      · have HN5 := Lib.hid (show IsNext N F L v' T K from ⟨hKL, by rw [HOK.out, z], HO2.out, HT3.out, fun i hi ho => by
                          have := HT3.out i (by omega) ho
                          have := HT4.out i hi ho
                          omega⟩)
                        subst z
                        have huA := hU9.alloc (.cells #[.int .i64 T] 3)
                        have hoA := ho9.alloc (.cells #[.int .i64 T] 3)
                        have hbA := b9.alloc z9 (.cells #[.int .i64 T] 3)
                        have HNE2 := Lib.hid (own_ne (by decide) huA hoA)
                        clear hU9 ho9 b9 hL9
                        go_wp2_with (at_builtin; refine appI_grown (by rfl) _ _ (by rfl) w.heap.size (l + 1 - L) _ D (T : Int) w9.heap.size HDL.out (by rfl) huA (by rfl) (heap_alloc_new w9 _) (by omega) (by simp; omega) ?_; intro A9 c9 w10 ho10 hg10; rw [ownBlock_blk] at hg10)
                        have hL10 := OwnS.apart hoA hg10 (fun k hk hk' => HNE2.out k hk' hk)
                        have b10 := hbA.grown hg10 (by simp; omega) (fun k hk => (huA.ge' k hk).1)
                        clear hoA huA hbA hg10
                        go_wp2
                        go_roundw
                        case rel => exact ⟨b10, K + 1, by omega, by go_num, .inr ⟨rfl, T, K, A9, A8, c9, c8, rfl, rfl, rfl, hTN, hKL, HN5, ho10, hL10⟩⟩
                        case measure => simp [intOf] <;> omega
                    · have HO2 := Lib.hid (show other (F K) v' ≠ (T : Int) by
                        rw [HO.out]
                        by_cases r : P = (v' : Int)
                        · rw [if_pos r]; intro q; exact e ⟨r, q⟩
                        · rw [if_neg r]
                          by_cases r2 : Q = (v' : Int)
                          · rw [if_pos r2]; intro q; exact e2 ⟨q, r2⟩
                          · rw [if_neg r2]; omega)
                      have HT5 := Lib.hid (show ∀ i, i < K + 1 → okAt N F L v' i = true → other (F i) v' ≠ (T : Int) from fun i hi ho => by
                        rcases (by omega : i < K ∨ i = K) with q | rfl
                        · exact HT4.out i q ho
                        · exact HO2.out)
                      clear HO
                      have hvT : (v' : Int) = (T : Int) ∨ (v' : Int) ≠ (T : Int) := by omega
                      rcases (by omega : (P = (v' : Int) ∧ (v' : Int) = (T : Int)) ∨ (P = (v' : Int) ∧ (v' : Int) ≠ (T : Int)) ∨ (P ≠ (v' : Int) ∧ P = (T : Int)) ∨ (P ≠ (v' : Int) ∧ P ≠ (T : Int))) with ⟨a1, a2⟩ | ⟨a1, a2⟩ | ⟨a1, a2⟩ | ⟨a1, a2⟩
                      · obtain rfl : v' = T := by omega
                        have b1 : ¬ Q = (v' : Int) := by omega
                        have b2 : (Q == (v' : Int)) = false := beq_eq_false_iff_ne.2 b1
                        subst a1
                        clear a2 e e2 hin2 hvT
                        go_wp2
                        go_roundw
                        case rel => exact ⟨hb, K + 1, by omega, by go_num, .inl ⟨rfl, rfl, rfl, rfl, HT5, oU, oL⟩⟩
                        case measure => simp [intOf] <;> omega
                      · have b1 : ¬ Q = (v' : Int) := by omega
                        have b2 : (Q == (v' : Int)) = false := beq_eq_false_iff_ne.2 b1
                        have b3 : ¬ Q = (T : Int) := fun q => e ⟨a1, q⟩
                        have b4 : (Q == (T : Int)) = false := beq_eq_false_iff_ne.2 b3
                        have b5 : ((v' : Int) == (T : Int)) = false := beq_eq_false_iff_ne.2 a2
                        have b6 : ¬ (v' : Int) = (T : Int) := a2
                        subst a1
                        clear a2 e e2 hin2 hvT
                        go_wp2
                        go_roundw
                        case rel => exact ⟨hb, K + 1, by omega, by go_num, .inl ⟨rfl, rfl, rfl, rfl, HT5, oU, oL⟩⟩
                        case measure => simp [intOf] <;> omega
                      · have b1 : ¬ Q = (v' : Int) := fun q => e2 ⟨a2, q⟩
                        have b2 : (Q == (v' : Int)) = false := beq_eq_false_iff_ne.2 b1
                        have b5 : ((T : Int) == (v' : Int)) = false := beq_eq_false_iff_ne.2 (by omega)
                        have b6 : ¬ (T : Int) = (v' : Int) := by omega
                        subst a2
                        clear a1 e e2 hin2 hvT
                        go_wp2
                        go_roundw
                        case rel => exact ⟨hb, K + 1, by omega, by go_num, .inl ⟨rfl, rfl, rfl, rfl, HT5, oU, oL⟩⟩
                        case measure => simp [intOf] <;> omega
                      · have b1 : ¬ P = (v' : Int) := a1
                        have b2 : (P == (v' : Int)) = false := beq_eq_false_iff_ne.2 b1
                        have b3 : ¬ P = (T : Int) := a2
                        have b4 : (P == (T : Int)) = false := beq_eq_false_iff_ne.2 b3
                        clear a1 a2 e e2 hin2 hvT
                        go_wp2
                        go_roundw
                        case rel => exact ⟨hb, K + 1, by omega, by go_num, .inl ⟨rfl, rfl, rfl, rfl, HT5, oU, oL⟩⟩
                        case measure => simp [intOf] <;> omega
                  · subst hKL
                    have K1 : ¬ (K : Int) < (K : Int) := by omega
                    have HT5 := Lib.hid (show ∀ i, i < K → okAt N F K v' i = true → ((T + 1 : Nat) : Int) ≤ other (F i) v' from fun i hi ho => by have := HT3.out i hi ho; have := HT4.out i hi ho; omega)
                    go_wp2
                    go_roundw
                    case rel => exact ⟨hb, T + 1, by omega, by go_num, .inl ⟨rfl, rfl, rfl, rfl, HT5, oU, oL⟩⟩
                    case measure => simp [intOf]; omega
                · go_wp2
                  all_goals
                    go_roundw
                    case rel => exact ⟨hb, T + 1, by omega, by go_num, .inr ⟨rfl, t, k, A7, A8, c7, c8, rfl, rfl, rfl, ht, hk, HN, oU, oL⟩⟩
                    case measure => simp [intOf] <;> omega
            · exfalso
              have := HT3.out k0 hk0 HN3.out.ok
              rw [HN3.out.to_] at this
              omega
          · have HI2 := Lib.hid (inN_rem HI.out hk)
            have HC2 := Lib.hid (next_go HN.out)
            have hu := HN.out.uniq HN3.out
            have HD2 := Lib.hid (show oneW N l f = (D ++ [(t : Int)]) ++ walkL N (L - 1) (rem F k) t by rw [HD.out, walkL_next HB.out q0, hu.1, hu.2]; simp)
            have HDL2 := Lib.hid (show (D ++ [(t : Int)]).length = l + 1 - (L - 1) by rw [List.length_append, HDL.out]; simp; omega)
            clear hu
            go_wp2
            all_goals
              go_roundw
              case rel => exact ⟨L - 1, t, rem F k, A7, A8, c7, c8, D ++ [(t : Int)], rfl, by rw [show l + 1 - L + 1 = l + 1 - (L - 1) by omega], rfl, by omega, ht, HI2, HC2, HD2, HDL2, by rw [show l + 1 - (L - 1) = l + 1 - L + 1 by omega]; exact oU, oL, hb⟩
              case measure => simp [lenOf]; omega
    · rw [ho] at o3 ⊢
      obtain ⟨g3, rfl⟩ := ownI_got o3 (by omega)
      have x3 := o3.cellAt (j := 0) (by rw [HOL.out, ho]; omega)
      rw [HS2.out ho] at x3
      have HO0 := Lib.hid ho
      clear ho o3
      go_wp2_with (at_builtin; refine appL_plain (by rfl) _ _ (by rfl) (w3.heap.size + 1) 0 l c l _ f f f ⟨ad, off, none⟩ (by rfl) hE (by rfl) HNW.out (by omega) (fun i _ j _ => catS_zero f f i j) (by omega) (by simp) ?_; intro A5 c5 w5 ho5 hg5)
      clear x3
      have hu5 := OwnI.apart (A' := some ⟨w3.heap.size + 1, 0, none⟩) hU hg5 (own_ne (by decide) hU hE)
      have b6 : Below w.heap.size w w5 := bW.grown hg5 (by simp; omega) (fun k hk => by cases hk; show w.heap.size ≤ w3.heap.size + 1; omega)
      replace ho5 := ho5.base_ (show w.heap.size ≤ w3.heap.size + 1 by omega)
      replace hu5 := hu5.base (show w.heap.size ≤ w3.heap.size by omega)
      clear hE hU bW hg5 b5
      go_loopw [7, 10, 11] (fun nv ov lv wr => ∃ (L v' : Nat) (F : Nat → Nat → Int) (A1 A2 : Option Addr) (c1 c2 : Nat) (D : List Int), nv = .int .i64 v' ∧ ov = .slice A1 (l + 1 - L) c1 ∧ lv = .slice A2 L c2 ∧ L ≤ l ∧ v' < N ∧ Hid (inN N F L) ∧ Hid (canGo N F L v' = true) ∧ Hid (oneW N l f = D ++ walkL N L F v') ∧ Hid (D.length = l + 1 - L) ∧ OwnI wr w.heap.size (.slice A1 (l + 1 - L) c1) D ∧ OwnS 2 43 wr w.heap.size (.slice A2 L c2) L F ∧ Below w.heap.size w wr) (fun _ _ lv _ => lenOf lv)
      case atStart => exact ⟨l, v, f, _, _, 1, c5, [(v : Int)], rfl, by rw [show l + 1 - l = 1 by omega], rfl, Nat.le_refl _, hv, HIN, HG, Lib.hid (by rw [HW.out]; rfl), Lib.hid (by simp <;> omega), by rw [show l + 1 - l = 1 by omega]; exact hu5, ho5, b6⟩
      case round =>
        clear ho5 hu5 b6
        obtain ⟨L, v', F, A1, A2, c1, c2, D, rfl, rfl, rfl, hLl, hv', HI, HC, HD, HDL, oU, oL, hb⟩ := hrel
        have hbz := hb.size
        rcases (by omega : L = 0 ∨ 0 < L) with q0 | q0
        · subst q0
          have HD2 := Lib.hid (show oneW N l f = D by rw [HD.out]; simp [walkL])
          go_wp2
          go_ret2
          exact ⟨A1, c1, by rw [HD2.out, HDL.out, HT.out]; rfl, by rw [HD2.out, HDL.out]; exact oU, hb⟩
        have HLl := Lib.hid hLl
        obtain ⟨G, rfl⟩ := oL.some_ q0
        obtain ⟨t0, k0, hbst, ht0, hk0, hN3⟩ := best_next HI.out hv' q0 HC.out
        have HB := Lib.hid hbst
        have HN3 := Lib.hid hN3
        have q1 : (0 : Int) < (L : Int) := by omega
        clear hbst
        go_wp2_with fail
        go_loopw [7, 10, 11, 12, 13] (fun nv ov lv fv tv wx => Below w.heap.size w wx ∧ ∃ T : Nat, T ≤ N ∧ tv = .int .i64 T ∧ ((fv = .bool false ∧ nv = .int .i64 v' ∧ ov = .slice A1 (l + 1 - L) c1 ∧ lv = .slice (some ⟨G, 0, none⟩) L c2 ∧ Hid (∀ i, i < L → okAt N F L v' i = true → (T : Int) ≤ other (F i) v') ∧ OwnI wx w.heap.size (.slice A1 (l + 1 - L) c1) D ∧ OwnS 2 43 wx w.heap.size (.slice (some ⟨G, 0, none⟩) L c2) L F) ∨ (fv = .bool true ∧ ∃ (t k : Nat) (A7 A8 : Option Addr) (c7 c8 : Nat), nv = .int .i64 t ∧ ov = .slice A7 (l + 1 - L + 1) c7 ∧ lv = .slice A8 (L - 1) c8 ∧ t < N ∧ k < L ∧ Hid (IsNext N F L v' t k) ∧ OwnI wx w.heap.size (.slice A7 (l + 1 - L + 1) c7) (D ++ [(t : Int)]) ∧ OwnS 2 43 wx w.heap.size (.slice A8 (L - 1) c8) (L - 1) (rem F k)))) (fun _ _ _ fv tv _ => match fv with | .bool true => 0 | _ => N + 1 - (intOf tv).toNat)
        case atStart => exact ⟨hb, 0, by omega, rfl, .inl ⟨rfl, rfl, rfl, rfl, Lib.hid (fun i _ hi => by have := hi; unfold okAt at this; have := of_decide_eq_true (Bool.and_eq_true_iff.1 this).1; omega), oU, oL⟩⟩
        case round =>
          clear oU oL hb hbz
          obtain ⟨hb, T, hT, rfl, hst⟩ := hrel
          have hbz := hb.size
          rcases hst with ⟨rfl, rfl, rfl, rfl, HT3, oU, oL⟩ | ⟨rfl, t, k, A7, A8, c7, c8, rfl, rfl, rfl, ht, hk, HN, oU, oL⟩
          · rcases (by omega : T < N ∨ T = N) with hTN | hTN
            · have T0 : (T : Int) < (N : Int) := by omega
              go_wp2_with fail
              go_loopw [7, 10, 11, 12, 14] (fun nv ov lv fv kv wx => Below w.heap.size w wx ∧ ∃ K : Nat, K ≤ L ∧ kv = .int .i64 K ∧ ((fv = .bool false ∧ nv = .int .i64 v' ∧ ov = .slice A1 (l + 1 - L) c1 ∧ lv = .slice (some ⟨G, 0, none⟩) L c2 ∧ Hid (∀ i, i < K → okAt N F L v' i = true → other (F i) v' ≠ (T : Int)) ∧ OwnI wx w.heap.size (.slice A1 (l + 1 - L) c1) D ∧ OwnS 2 43 wx w.heap.size (.slice (some ⟨G, 0, none⟩) L c2) L F) ∨ (fv = .bool true ∧ ∃ (t k : Nat) (A7 A8 : Option Addr) (c7 c8 : Nat), nv = .int .i64 t ∧ ov = .slice A7 (l + 1 - L + 1) c7 ∧ lv = .slice A8 (L - 1) c8 ∧ t < N ∧ k < L ∧ Hid (IsNext N F L v' t k) ∧ OwnI wx w.heap.size (.slice A7 (l + 1 - L + 1) c7) (D ++ [(t : Int)]) ∧ OwnS 2 43 wx w.heap.size (.slice A8 (L - 1) c8) (L - 1) (rem F k)))) (fun _ _ _ fv kv _ => match fv with | .bool true => 0 | _ => L + 1 - (intOf kv).toNat)
              case atStart => exact ⟨hb, 0, by omega, rfl, .inl ⟨rfl, rfl, rfl, rfl, Lib.hid (fun i hi => by omega), oU, oL⟩⟩
              case round =>
                clear oU oL hb hbz
                obtain ⟨hb, K, hK, rfl, hst⟩ := hrel
                have hbz := hb.size
                rcases hst with ⟨rfl, rfl, rfl, rfl, HT4, oU, oL⟩ | ⟨rfl, t, k, A7, A8, c7, c8, rfl, rfl, rfl, ht, hk, HN, oU, oL⟩
                · rcases (by omega : K < L ∨ K = L) with hKL | hKL
                  · have K0 : (0 : Int) ≤ (K : Int) := by omega
                    have K1 : (K : Int) < (L : Int) := by omega
                    have x0 : wr.cell? ⟨G, K * 2, none⟩ = some (.int .i64 (F K 0)) := oL.cellAt (j := 0) hKL (by omega)
                    have x1 : wr.cell? ⟨G, K * 2 + 1, none⟩ = some (.int .i64 (F K 1)) := oL.cellAt (j := 1) hKL (by omega)
                    have hin2 := HI.out K hKL
                    have HO := Lib.hid (show other (F K) v' = if F K 0 = v' then F K 1 else if F K 1 = v' then F K 0 else -1 from rfl)
                    have zG := oL.ge
                    obtain ⟨P, hP⟩ : ∃ P, P = F K 0 := ⟨_, rfl⟩
                    obtain ⟨Q, hQ⟩ : ∃ Q, Q = F K 1 := ⟨_, rfl⟩
                    rw [← hP] at x0 HO
                    rw [← hQ] at x1 HO
                    rw [← hP, ← hQ] at hin2
                    clear hP hQ
                    rcases (by omega : (P = (v' : Int) ∧ Q = (T : Int)) ∨ (P = (T : Int) ∧ Q = (v' : Int)) ∨ (¬ (P = (v' : Int) ∧ Q = (T : Int)) ∧ ¬ (P = (T : Int) ∧ Q = (v' : Int)))) with ⟨e, e2⟩ | ⟨e, e2⟩ | ⟨e, e2⟩
                    · have HO2 := Lib.hid (show other (F K) v' = (T : Int) by rw [HO.out, if_pos e, e2])
                      subst e e2
                      have hE : OwnS 2 43 (wr.drew.alloc (.cells #[] 43)) wr.heap.size (.slice (some ⟨wr.heap.size, 0, none⟩) 0 0) 0 F := by simpa using ownS_empty 2 43 wr.drew F
                      have hoW := oL.drew.alloc (.cells #[] 43)
                      have huW := oU.drew.alloc (.cells #[] 43)
                      have hbW := hb.drew.alloc (show w.heap.size ≤ wr.drew.heap.size by simp; omega) (.cells #[] 43)
                      have HN1 := Lib.hid (news_own (hoW.pre (show K ≤ L by omega)))
                      have hLc := oL.le
                      obtain ⟨AD, hAD, hAN⟩ := sub_addr (m := 2) (e := 43) (base := w.heap.size) (g := G) (n := L) (c := c2) (lo := K + 1) (f := F) (by decide) hLc
                      have HAN := Lib.hid hAN
                      have HNE : Hid (∀ k, blk (some (⟨G, 0, none⟩ : Addr)) = some k → blk (some (⟨wr.heap.size, 0, none⟩ : Addr)) = some k → False) := Lib.hid fun k hk hk' => by
                        have e1 : G = k := Option.some.inj hk
                        have e2 : wr.heap.size = k := Option.some.inj hk'
                        omega
                      have HCR := Lib.hid (show ∀ i, i < L - 1 → ∀ b, b < 2 → catS F K (fun k => F (K + 1 + k)) i b = rem F K i b from fun i _ b _ => by rw [catS_rem])
                      have HIR : Hid (∀ k, k < L - 1 → 0 ≤ rem F K k 0 ∧ rem F K k 0 < N ∧ 0 ≤ rem F K k 1 ∧ rem F K k 1 < N ∧ rem F K k 0 ≠ rem F K k 1) := Lib.hid (inN_rem HI.out hKL)
                      have HWR := Lib.hid (show ∀ i, i < L - 1 → ∀ b, b < 2 → (Lit.int .i64 (rem F K i b)).wf = true from fun i hi b hb => WalkArith.wf_i64 (by
                        have := HIR.out i hi
                        rcases (by omega : b = 0 ∨ b = 1) with rfl | rfl <;> omega))
                      have hic : K ≤ c2 := by omega
                      have hwr : IntKind.i64.wrap ((K : Int) + 1) = (K : Int) + 1 := IntWalk.i64_in _ (by omega)
                      have hp0 : (0 : Int) ≤ (K : Int) + 1 := by omega
                      have hp1 : (K : Int) + 1 ≤ (L : Int) := by omega
                      have hp2 : ((K : Int) + 1).toNat = K + 1 := by omega
                      have hp3 : (K : Int) ≤ (L : Int) := by omega
                      have HBZ := Lib.hid hbz
                      clear hAN hLc HO hin2
                      go_wp2_with fail
                      go_region_held3 (fun _ => True) (first | go_keep | trivial) (first | (refine appL_drawn (by rfl) (.tmp 90) (.tmp 93) (by rfl) wr.heap.size 0 K c2 K _ F F F ⟨G, 0, none⟩ (by rfl) hE (by rfl) HN1.out (by omega) (fun i _ j _ => catS_zero F F i j) (by omega) (by simp) ?_; intro A7 c7 w7 ho7 hg7; have hL7 := OwnS.apart (A' := some ⟨wr.heap.size, 0, none⟩) hoW hg7 HNE.out; have hU7 := OwnI.apart (A' := some ⟨wr.heap.size, 0, none⟩) huW hg7 (own_ne (by decide) huW hE); have b7 := hbW.grown hg7 (by simp; omega) (fun k hk => by cases hk; exact hbz)) | (refine appL_drawn (by rfl) (.tmp 94) (.tmp 98) (by rfl) wr.heap.size K (L - (K + 1)) (c2 - (K + 1)) (L - 1) _ F (fun k => F (K + 1 + k)) (rem F K) AD (by rfl) ho7 (by rfl) (HAN.out w7 hL7) (by omega) HCR.out (by omega) (by have := hg7.size; simp at this; omega) ?_; intro A8 c8 w8 ho8 hg8; rw [ownBlock_blk] at hg8; have hL8 := OwnS.apart hL7 hg8 (fun k hk hk' => by have e1 : G = k := Option.some.inj hk; have := ho7.ge' k hk'; omega); have hU8 := OwnI.apart hU7 hg8 (own_ne (by decide) hU7 ho7); have b8 := b7.grown hg8 b7.size (fun k hk => by have := ho7.ge' k hk; omega)))
                      clear x0 x1 hAD hE hoW huW hbW hL7 hU7 b7 ho7 hg7 hg8 oU oL hb
                      go_wp2_with fail
                      refine (spec_canGo N T A8 (L - 1) c8 (rem F K) _ _ (ho8.rowP HWR.out) (Nat.le_refl _) hN1 hN (by omega) HIR.out hTN).mono ?_
                      rintro e w9 ⟨rfl, hb9⟩
                      have hL9 := hL8.keep hb9
                      have hU9 := hU8.keep hb9
                      have ho9 := (ho8.keep hb9).base_ HBZ.out
                      have b9 := b8.trans (hb9.mono b8.size)
                      have z9 := b9.size
                      obtain ⟨R, hR⟩ : ∃ R, R = canGo N (rem F K) (L - 1) T := ⟨_, rfl⟩
                      rw [← hR]
                      have HOK := Lib.hid (show okAt N F L v' K = R by rw [okAt_pos HO2.out, hR])
                      clear hR hL8 hU8 ho8 b8 hb9
                      rcases (Bool.eq_false_or_eq_true R).symm with z | z
                      · have HT5 := Lib.hid (show ∀ i, i < K + 1 → okAt N F L v' i = true → other (F i) v' ≠ (T : Int) from fun i hi ho => by
                          rcases (by omega : i < K ∨ i = K) with q | rfl
                          · exact HT4.out i q ho
                          · rw [HOK.out, z] at ho; cases ho)
                        subst z
                        go_wp2
                        go_roundw
                        case rel => exact ⟨b9, K + 1, by omega, by go_num, .inl ⟨rfl, rfl, rfl, rfl, HT5, hU9, hL9⟩⟩
                        case measure => simp [intOf] <;> omega
                      · have HN5 := Lib.hid (show IsNext N F L v' T K from ⟨hKL, by rw [HOK.out, z], HO2.out, HT3.out, fun i hi ho => by
                          have := HT3.out i (by omega) ho
                          have := HT4.out i hi ho
                          omega⟩)
                        subst z
                        have huA := hU9.alloc (.cells #[.int .i64 T] 3)
                        have hoA := ho9.alloc (.cells #[.int .i64 T] 3)
                        have hbA := b9.alloc z9 (.cells #[.int .i64 T] 3)
                        have HNE2 := Lib.hid (own_ne (by decide) huA hoA)
                        clear hU9 ho9 b9 hL9
                        go_wp2_with (at_builtin; refine appI_grown (by rfl) _ _ (by rfl) w.heap.size (l + 1 - L) _ D (T : Int) w9.heap.size HDL.out (by rfl) huA (by rfl) (heap_alloc_new w9 _) (by omega) (by simp; omega) ?_; intro A9 c9 w10 ho10 hg10; rw [ownBlock_blk] at hg10)
                        have hL10 := OwnS.apart hoA hg10 (fun k hk hk' => HNE2.out k hk' hk)
                        have b10 := hbA.grown hg10 (by simp; omega) (fun k hk => (huA.ge' k hk).1)
                        clear hoA huA hbA hg10
                        go_wp2
                        go_roundw
                        case rel => exact ⟨b10, K + 1, by omega, by go_num, .inr ⟨rfl, T, K, A9, A8, c9, c8, rfl, rfl, rfl, hTN, hKL, HN5, ho10, hL10⟩⟩
                        case measure => simp [intOf] <;> omega
                    · have HO2 := Lib.hid (show other (F K) v' = (T : Int) by rw [HO.out, if_neg (by omega), if_pos e2, e])
                      have He3 := Lib.hid (show (v' : Int) ≠ (T : Int) by omega)
                      subst e e2
                      have s1 : ((T : Int) == (v' : Int)) = false := beq_eq_false_iff_ne.2 (fun e => He3.out e.symm)
                      have s2 : ((v' : Int) == (T : Int)) = false := beq_eq_false_iff_ne.2 He3.out
                      have s3 : ¬ (T : Int) = (v' : Int) := fun e => He3.out e.symm
                      have s4 : ¬ (v' : Int) = (T : Int) := He3.out
                      have hE : OwnS 2 43 (wr.drew.alloc (.cells #[] 43)) wr.heap.size (.slice (some ⟨wr.heap.size, 0, none⟩) 0 0) 0 F := by simpa using ownS_empty 2 43 wr.drew F
                      have hoW := oL.drew.alloc (.cells #[] 43)
                      have huW := oU.drew.alloc (.cells #[] 43)
                      have hbW := hb.drew.alloc (show w.heap.size ≤ wr.drew.heap.size by simp; omega) (.cells #[] 43)
                      have HN1 := Lib.hid (news_own (hoW.pre (show K ≤ L by omega)))
                      have hLc := oL.le
                      obtain ⟨AD, hAD, hAN⟩ := sub_addr (m := 2) (e := 43) (base := w.heap.size) (g := G) (n := L) (c := c2) (lo := K + 1) (f := F) (by decide) hLc
                      have HAN := Lib.hid hAN
                      have HNE : Hid (∀ k, blk (some (⟨G, 0, none⟩ : Addr)) = some k → blk (some (⟨wr.heap.size, 0, none⟩ : Addr)) = some k → False) := Lib.hid fun k hk hk' => by
                        have e1 : G = k := Option.some.inj hk
                        have e2 : wr.heap.size = k := Option.some.inj hk'
                        omega
                      have HCR := Lib.hid (show ∀ i, i < L - 1 → ∀ b, b < 2 → catS F K (fun k => F (K + 1 + k)) i b = rem F K i b from fun i _ b _ => by rw [catS_rem])
                      have HIR : Hid (∀ k, k < L - 1 → 0 ≤ rem F K k 0 ∧ rem F K k 0 < N ∧ 0 ≤ rem F K k 1 ∧ rem F K k 1 < N ∧ rem F K k 0 ≠ rem F K k 1) := Lib.hid (inN_rem HI.out hKL)
                      have HWR := Lib.hid (show ∀ i, i < L - 1 → ∀ b, b < 2 → (Lit.int .i64 (rem F K i b)).wf = true from fun i hi b hb => WalkArith.wf_i64 (by
                        have := HIR.out i hi
                        rcases (by omega : b = 0 ∨ b = 1) with rfl | rfl <;> omega))
                      have hic : K ≤ c2 := by omega
                      have hwr : IntKind.i64.wrap ((K : Int) + 1) = (K : Int) + 1 := IntWalk.i64_in _ (by omega)
                      have hp0 : (0 : Int) ≤ (K : Int) + 1 := by omega
                      have hp1 : (K : Int) + 1 ≤ (L : Int) := by omega
                      have hp2 : ((K : Int) + 1).toNat = K + 1 := by omega
                      have hp3 : (K : Int) ≤ (L : Int) := by omega
                      have HBZ := Lib.hid hbz
                      clear hAN hLc HO hin2
                      go_wp2_with fail
                      go_region_held3 (fun _ => True) (first | go_keep | trivial) (first | (refine appL_drawn (by rfl) (.tmp 90) (.tmp 93) (by rfl) wr.heap.size 0 K c2 K _ F F F ⟨G, 0, none⟩ (by rfl) hE (by rfl) HN1.out (by omega) (fun i _ j _ => catS_zero F F i j) (by omega) (by simp) ?_; intro A7 c7 w7 ho7 hg7; have hL7 := OwnS.apart (A' := some ⟨wr.heap.size, 0, none⟩) hoW hg7 HNE.out; have hU7 := OwnI.apart (A' := some ⟨wr.heap.size, 0, none⟩) huW hg7 (own_ne (by decide) huW hE); have b7 := hbW.grown hg7 (by simp; omega) (fun k hk => by cases hk; exact hbz)) | (refine appL_drawn (by rfl) (.tmp 94) (.tmp 98) (by rfl) wr.heap.size K (L - (K + 1)) (c2 - (K + 1)) (L - 1) _ F (fun k => F (K + 1 + k)) (rem F K) AD (by rfl) ho7 (by rfl) (HAN.out w7 hL7) (by omega) HCR.out (by omega) (by have := hg7.size; simp at this; omega) ?_; intro A8 c8 w8 ho8 hg8; rw [ownBlock_blk] at hg8; have hL8 := OwnS.apart hL7 hg8 (fun k hk hk' => by have e1 : G = k := Option.some.inj hk; have := ho7.ge' k hk'; omega); have hU8 := OwnI.apart hU7 hg8 (own_ne (by decide) hU7 ho7); have b8 := b7.grown hg8 b7.size (fun k hk => by have := ho7.ge' k hk; omega)))
                      clear x0 x1 hAD hE hoW huW hbW hL7 hU7 b7 ho7 hg7 hg8 oU oL hb
                      go_wp2_with fail
                      refine (spec_canGo N T A8 (L - 1) c8 (rem F K) _ _ (ho8.rowP HWR.out) (Nat.le_refl _) hN1 hN (by omega) HIR.out hTN).mono ?_
                      rintro e w9 ⟨rfl, hb9⟩
                      have hL9 := hL8.keep hb9
                      have hU9 := hU8.keep hb9
                      have ho9 := (ho8.keep hb9).base_ HBZ.out
                      have b9 := b8.trans (hb9.mono b8.size)
                      have z9 := b9.size
                      obtain ⟨R, hR⟩ : ∃ R, R = canGo N (rem F K) (L - 1) T := ⟨_, rfl⟩
                      rw [← hR]
                      have HOK := Lib.hid (show okAt N F L v' K = R by rw [okAt_pos HO2.out, hR])
                      clear hR hL8 hU8 ho8 b8 hb9
                      rcases (Bool.eq_false_or_eq_true R).symm with z | z
                      · have HT5 := Lib.hid (show ∀ i, i < K + 1 → okAt N F L v' i = true → other (F i) v' ≠ (T : Int) from fun i hi ho => by
                          rcases (by omega : i < K ∨ i = K) with q | rfl
                          · exact HT4.out i q ho
                          · rw [HOK.out, z] at ho; cases ho)
                        subst z
                        go_wp2
                        go_roundw
                        case rel => exact ⟨b9, K + 1, by omega, by go_num, .inl ⟨rfl, rfl, rfl, rfl, HT5, hU9, hL9⟩⟩
                        case measure => simp [intOf] <;> omega
                      · have HN5 := Lib.hid (show IsNext N F L v' T K from ⟨hKL, by rw [HOK.out, z], HO2.out, HT3.out, fun i hi ho => by
                          have := HT3.out i (by omega) ho
                          have := HT4.out i hi ho
                          omega⟩)
                        subst z
                        have huA := hU9.alloc (.cells #[.int .i64 T] 3)
                        have hoA := ho9.alloc (.cells #[.int .i64 T] 3)
                        have hbA := b9.alloc z9 (.cells #[.int .i64 T] 3)
                        have HNE2 := Lib.hid (own_ne (by decide) huA hoA)
                        clear hU9 ho9 b9 hL9
                        go_wp2_with (at_builtin; refine appI_grown (by rfl) _ _ (by rfl) w.heap.size (l + 1 - L) _ D (T : Int) w9.heap.size HDL.out (by rfl) huA (by rfl) (heap_alloc_new w9 _) (by omega) (by simp; omega) ?_; intro A9 c9 w10 ho10 hg10; rw [ownBlock_blk] at hg10)
                        have hL10 := OwnS.apart hoA hg10 (fun k hk hk' => HNE2.out k hk' hk)
                        have b10 := hbA.grown hg10 (by simp; omega) (fun k hk => (huA.ge' k hk).1)
                        clear hoA huA hbA hg10
                        go_wp2
                        go_roundw
                        case rel => exact ⟨b10, K + 1, by omega, by go_num, .inr ⟨rfl, T, K, A9, A8, c9, c8, rfl, rfl, rfl, hTN, hKL, HN5, ho10, hL10⟩⟩
                        case measure => simp [intOf] <;> omega
                    · have HO2 := Lib.hid (show other (F K) v' ≠ (T : Int) by
                        rw [HO.out]
                        by_cases r : P = (v' : Int)
                        · rw [if_pos r]; intro q; exact e ⟨r, q⟩
                        · rw [if_neg r]
                          by_cases r2 : Q = (v' : Int)
                          · rw [if_pos r2]; intro q; exact e2 ⟨q, r2⟩
                          · rw [if_neg r2]; omega)
                      have HT5 := Lib.hid (show ∀ i, i < K + 1 → okAt N F L v' i = true → other (F i) v' ≠ (T : Int) from fun i hi ho => by
                        rcases (by omega : i < K ∨ i = K) with q | rfl
                        · exact HT4.out i q ho
                        · exact HO2.out)
                      clear HO
                      have hvT : (v' : Int) = (T : Int) ∨ (v' : Int) ≠ (T : Int) := by omega
                      rcases (by omega : (P = (v' : Int) ∧ (v' : Int) = (T : Int)) ∨ (P = (v' : Int) ∧ (v' : Int) ≠ (T : Int)) ∨ (P ≠ (v' : Int) ∧ P = (T : Int)) ∨ (P ≠ (v' : Int) ∧ P ≠ (T : Int))) with ⟨a1, a2⟩ | ⟨a1, a2⟩ | ⟨a1, a2⟩ | ⟨a1, a2⟩
                      · obtain rfl : v' = T := by omega
                        have b1 : ¬ Q = (v' : Int) := by omega
                        have b2 : (Q == (v' : Int)) = false := beq_eq_false_iff_ne.2 b1
                        subst a1
                        clear a2 e e2 hin2 hvT
                        go_wp2
                        go_roundw
                        case rel => exact ⟨hb, K + 1, by omega, by go_num, .inl ⟨rfl, rfl, rfl, rfl, HT5, oU, oL⟩⟩
                        case measure => simp [intOf] <;> omega
                      · have b1 : ¬ Q = (v' : Int) := by omega
                        have b2 : (Q == (v' : Int)) = false := beq_eq_false_iff_ne.2 b1
                        have b3 : ¬ Q = (T : Int) := fun q => e ⟨a1, q⟩
                        have b4 : (Q == (T : Int)) = false := beq_eq_false_iff_ne.2 b3
                        have b5 : ((v' : Int) == (T : Int)) = false := beq_eq_false_iff_ne.2 a2
                        have b6 : ¬ (v' : Int) = (T : Int) := a2
                        subst a1
                        clear a2 e e2 hin2 hvT
                        go_wp2
                        go_roundw
                        case rel => exact ⟨hb, K + 1, by omega, by go_num, .inl ⟨rfl, rfl, rfl, rfl, HT5, oU, oL⟩⟩
                        case measure => simp [intOf] <;> omega
                      · have b1 : ¬ Q = (v' : Int) := fun q => e2 ⟨a2, q⟩
                        have b2 : (Q == (v' : Int)) = false := beq_eq_false_iff_ne.2 b1
                        have b5 : ((T : Int) == (v' : Int)) = false := beq_eq_false_iff_ne.2 (by omega)
                        have b6 : ¬ (T : Int) = (v' : Int) := by omega
                        subst a2
                        clear a1 e e2 hin2 hvT
                        go_wp2
                        go_roundw
                        case rel => exact ⟨hb, K + 1, by omega, by go_num, .inl ⟨rfl, rfl, rfl, rfl, HT5, oU, oL⟩⟩
                        case measure => simp [intOf] <;> omega
                      · have b1 : ¬ P = (v' : Int) := a1
                        have b2 : (P == (v' : Int)) = false := beq_eq_false_iff_ne.2 b1
                        have b3 : ¬ P = (T : Int) := a2
                        have b4 : (P == (T : Int)) = false := beq_eq_false_iff_ne.2 b3
                        clear a1 a2 e e2 hin2 hvT
                        go_wp2
                        go_roundw
                        case rel => exact ⟨hb, K + 1, by omega, by go_num, .inl ⟨rfl, rfl, rfl, rfl, HT5, oU, oL⟩⟩
                        case measure => simp [intOf] <;> omega
                  · subst hKL
                    have K1 : ¬ (K : Int) < (K : Int) := by omega
                    have HT5 := Lib.hid (show ∀ i, i < K → okAt N F K v' i = true → ((T + 1 : Nat) : Int) ≤ other (F i) v' from fun i hi ho => by have := HT3.out i hi ho; have := HT4.out i hi ho; omega)
                    go_wp2
                    go_roundw
                    case rel => exact ⟨hb, T + 1, by omega, by go_num, .inl ⟨rfl, rfl, rfl, rfl, HT5, oU, oL⟩⟩
                    case measure => simp [intOf]; omega
                · go_wp2
                  all_goals
                    go_roundw
                    case rel => exact ⟨hb, T + 1, by omega, by go_num, .inr ⟨rfl, t, k, A7, A8, c7, c8, rfl, rfl, rfl, ht, hk, HN, oU, oL⟩⟩
                    case measure => simp [intOf] <;> omega
            · exfalso
              have := HT3.out k0 hk0 HN3.out.ok
              rw [HN3.out.to_] at this
              omega
          · have HI2 := Lib.hid (inN_rem HI.out hk)
            have HC2 := Lib.hid (next_go HN.out)
            have hu := HN.out.uniq HN3.out
            have HD2 := Lib.hid (show oneW N l f = (D ++ [(t : Int)]) ++ walkL N (L - 1) (rem F k) t by rw [HD.out, walkL_next HB.out q0, hu.1, hu.2]; simp)
            have HDL2 := Lib.hid (show (D ++ [(t : Int)]).length = l + 1 - (L - 1) by rw [List.length_append, HDL.out]; simp; omega)
            clear hu
            go_wp2
            all_goals
              go_roundw
              case rel => exact ⟨L - 1, t, rem F k, A7, A8, c7, c8, D ++ [(t : Int)], rfl, by rw [show l + 1 - L + 1 = l + 1 - (L - 1) by omega], rfl, by omega, ht, HI2, HC2, HD2, HDL2, by rw [show l + 1 - (L - 1) = l + 1 - L + 1 by omega]; exact oU, oL, hb⟩
              case measure => simp [lenOf]; omega
end Go.Proofs.Ytkgabnhfjmldbaa
