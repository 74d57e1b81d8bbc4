/- Contracts of BlockContrast and LeastContrast: the reference's side. -/
import Derived.Test.YthenjmjnooaokaaContrS
import Derived.Deep.QuietTactic
import Derived.BigQuiet
namespace Go.Proofs.Ythenjmjnooaokaa
open Go.ChangeShapes Go.WideShapes Go.ChangeAt Go.RowKit
theorem take_zOf {P : List (List Int)} {j : Nat} (h : j < P.length) : P.take (j + 1) = P.take j ++ [zOf P j] := by
  rw [List.take_add_one, List.getElem?_eq_getElem h]
  simp [zOf, List.getD, h]
theorem gapOf_two (zs : List Int) (a d : Int) : gapOf zs [a, d] = gap (nth zs a.toNat) (nth zs d.toNat) := rfl
set_option maxRecDepth 100000 in
set_option maxHeartbeats 8000000 in
theorem spec_blockC (s : Int) (A : Option Addr) (n c : Nat) (f : Nat → Nat → Int) (Av : Option Addr) (m cv : Nat) (zs : List Int) (B : Nat) (w : World) (hP : RowP 3 w B A n c f) (h : RowI .i64 w B Av m cv zs) (hB : B ≤ w.heap.size) :
    Calls Try.prog 23 #[.agg #[.int .i64 s, .slice A n c], .slice Av m cv] w fun e w' => e = .returned (.int .i64 (blockC s n f zs m)) ∧ Below w.heap.size w w' := by
  have b0 : Below w.heap.size w (w.alloc (.cells #[.int .i64 s, .slice A n c] 31)) := (Below.refl _ _).alloc (Nat.le_refl _) _
  have x0 : BoxB (w.alloc (.cells #[.int .i64 s, .slice A n c] 31)) w.heap.size s (.slice A n c) := ⟨by simp, by go_simp, by go_simp⟩
  have hP0 : RowP 3 (w.alloc (.cells #[.int .i64 s, .slice A n c] 31)) B A n c f := hP.keep fun p hp => b0.cell (by omega)
  rcases Bool.eq_false_or_eq_true (blockOk s n f) with hO | hO
  · have HO := Lib.hid hO
    rcases Bool.eq_false_or_eq_true (okList zs m 0 100) with hZ | hZ
    · obtain ⟨hm, hbd⟩ := okList_t hZ h.len
      have hbk := block_of hO
      obtain ⟨S, rfl⟩ : ∃ S : Nat, s = S := ⟨s.toNat, by have := hbk.s1; omega⟩
      have HE := Lib.hid (show blockC (S : Int) n f zs m = sumC zs (prs S f S) by unfold blockC; rw [hO, hZ, Int.toNat_natCast]; rfl)
      have hz6 : ∀ i, i < 6 → 0 ≤ nth zs i ∧ nth zs i ≤ 100 := fun i hi => hbd i (by omega)
      have HZ := Lib.hid hZ
      have hm6 : 6 ≤ m := by omega
      have HPR := Lib.hid (isPrs (s := S) (f := f) (fun k hk => hbk.ok k (by have h2 := hbk.sq; have h3 : ((S * S : Nat) : Int) = (S : Int) * (S : Int) := Int.natCast_mul S S; omega)) S (Nat.le_refl _))
      have hS4 := hbk.s4
      have HLN := Lib.hid (show (prs S f S).length ≤ 48 by have e := prs_len S f S; have e2 := Nat.mul_le_mul (show S ≤ 4 by omega) (show S ≤ 4 by omega); omega)
      obtain ⟨bz, oz, rfl, hbz, hx⟩ := h.2.2.2.2 (by omega)
      have HX := Lib.hid hx
      have HZ6 := Lib.hid hz6
      clear hO hZ hbd hbk hm hx hz6
      go_enter Try.func23, Try.ntmps23
      go_wp2_with fail
      refine (spec_blockOk S A n c f B _ hP0 (by simp; omega)).mono ?_
      rintro e w1 ⟨rfl, hb1⟩
      rw [HO.out]
      have x1 := x0.below hb1 x0.1
      have b1 := b0.trans (hb1.mono (by simp))
      have hP1 : RowP 3 w1 B A n c f := hP.keep fun p hp => b1.cell (by omega)
      have hI1 : RowI .i64 w1 B (some ⟨bz, oz, none⟩) m cv zs := h.keep fun p hp => b1.cell (by omega)
      have z1 := b1.size
      clear x0 hP0 b0 hb1
      obtain ⟨xz, xc0, xc1⟩ := id x1
      go_wp2_with fail
      refine (spec_contrastOk _ m cv zs B _ hI1).mono ?_
      rintro e w' ⟨rfl, rfl⟩
      rw [HZ.out]
      go_wp2_with fail
      refine (spec_all S A n c f B _ hP1 (by omega) HO.out).mono ?_
      rintro e w3 ⟨A2, c2, rfl, ho3, hb3⟩
      have b3 := b1.trans (hb3.mono (by omega))
      obtain ⟨P, hP'⟩ : ∃ P, P = prs S f S := ⟨_, rfl⟩
      rw [← hP'] at ho3 HPR HLN HE ⊢
      obtain ⟨N, hN'⟩ : ∃ N, N = P.length := ⟨_, rfl⟩
      have HN := Lib.hid hN'
      rw [← hN'] at ho3 HLN ⊢
      have hrow3 : RowII w3 w3.heap.size A2 N c2 (zOf P) := ho3.rowII fun i hi x hx => by
        obtain ⟨a, d, e, q⟩ := HPR.out _ (zOf_mem (L := P) (j := i) (by have e := HN.out; omega))
        rw [e] at hx
        simp only [List.mem_cons, List.not_mem_nil, or_false] at hx
        rcases hx with rfl | rfl <;> exact WalkArith.wf_i64 (by omega)
      clear hP' hN' ho3 hb3 b1 hP1 hI1 x1 xz xc0 xc1 hP h z1
      go_wp2_with fail
      go_loopw [5, 7] (fun t i wr => ∃ j : Nat, j ≤ N ∧ i = .int .i64 j ∧ t = .int .i64 (sumC zs (P.take j)) ∧ RowII wr w3.heap.size A2 N c2 (zOf P) ∧ Below w.heap.size w wr) (fun _ i _ => N - (intOf i).toNat)
      case atStart => exact ⟨0, by omega, rfl, rfl, hrow3, b3⟩
      case round =>
        clear hrow3 b3
        obtain ⟨j, hj, rfl, rfl, hrow, hb⟩ := hrel
        obtain ⟨T, hT⟩ : ∃ T, T = sumC zs (P.take j) := ⟨_, rfl⟩
        have hTb := sumC_bd (L := P.take j) HZ6.out (fun p hp => HPR.out p (List.mem_of_mem_take hp))
        have hTl := List.length_take_le j P
        have hlen := HLN.out
        rw [← hT] at hTb ⊢
        have HT := Lib.hid hT.symm
        clear hT
        by_cases hlt : j < N
        · have j0 : (0 : Int) ≤ (j : Int) := by omega
          have j3 : (j : Int) < (N : Int) := by omega
          obtain ⟨bl, ol, rfl, hblB, Aj, cj, hcj, hrj⟩ := hrow.at_ hlt
          obtain ⟨a, d, hp, a0, a5, d0, d5⟩ := HPR.out _ (zOf_mem (L := P) (j := j) (by have e := HN.out; omega))
          rw [hp] at hcj hrj
          have HP2 := Lib.hid hp
          clear hp
          obtain ⟨bj, oj, rfl, hbjB, hxj⟩ := hrj.2.2.2.2 (by simp)
          have y0 : wr.cell? ⟨bj, oj, none⟩ = some (.int .i64 a) := hxj 0 (by simp)
          have y1 : wr.cell? ⟨bj, oj + 1, none⟩ = some (.int .i64 d) := hxj 1 (by simp)
          have hcj2 : wr.cell? ⟨bl, ol + j, none⟩ = some (.slice (some ⟨bj, oj, none⟩) 2 cj) := hcj
          have x1 := (hb.cell (p := ⟨bz, oz + a.toNat, none⟩) (show bz < w.heap.size by omega)).trans (HX.out a.toNat (by omega))
          have x2 := (hb.cell (p := ⟨bz, oz + d.toNat, none⟩) (show bz < w.heap.size by omega)).trans (HX.out d.toNat (by omega))
          have b1 := HZ6.out a.toNat (by omega)
          have b2 := HZ6.out d.toNat (by omega)
          have p3 : a < (m : Int) := by omega
          have p4 : d < (m : Int) := by omega
          have hg := gap_bd b1 b2
          clear hcj hrj hxj
          have HS := Lib.hid (show sumC zs (P.take (j + 1)) = T + gap (nth zs a.toNat) (nth zs d.toNat) by rw [take_zOf (by have e := HN.out; omega), HP2.out, sumC_snoc, gapOf_two, HT.out])
          have ew2 : IntKind.i64.wrap (T + gap (nth zs a.toNat) (nth zs d.toNat)) = T + gap (nth zs a.toNat) (nth zs d.toNat) := IntWalk.i64_in _ (by omega)
          go_wp2_with fail
          go_quiet ((go_at_call 66; with_reducible exact quiet_gap (nth zs a.toNat) (nth zs d.toNat) _ _ b1 b2))
          go_wp2
          go_roundw
          case rel => exact ⟨j + 1, by omega, by go_num, by rw [HS.out], hrow, ⟨hb.os, hb.tape, hb.output, hb.size, hb.block⟩⟩
          case measure => simp [intOf]; omega
        · have j3 : ¬ (j : Int) < (N : Int) := by omega
          have HF := Lib.hid (show P.take j = P by rw [List.take_of_length_le (by have e := HN.out; omega)])
          go_wp2
          go_ret
          exact ⟨ret_int (by rw [HE.out, ← HT.out, HF.out]), hb⟩
    · have HE := Lib.hid (show blockC s n f zs m = -1 by unfold blockC; rw [hZ, Bool.and_false]; rfl)
      have HZ := Lib.hid hZ
      clear hO hZ
      go_enter Try.func23, Try.ntmps23
      go_wp2_with fail
      refine (spec_blockOk s A n c f B _ hP0 (by simp; omega)).mono ?_
      rintro e w1 ⟨rfl, hb1⟩
      rw [HO.out]
      have b1 := b0.trans (hb1.mono (by simp))
      have hI1 : RowI .i64 w1 B Av m cv zs := h.keep fun p hp => b1.cell (by omega)
      clear x0 hP0 b0 hb1
      go_wp2_with fail
      refine (spec_contrastOk Av m cv zs B _ hI1).mono ?_
      rintro e w' ⟨rfl, rfl⟩
      rw [HZ.out]
      go_wp2
      go_ret
      exact ⟨ret_int HE.out.symm, b1⟩
  · have HE := Lib.hid (show blockC s n f zs m = -1 by unfold blockC; rw [hO]; rfl)
    have HO := Lib.hid hO
    clear hO
    go_enter Try.func23, Try.ntmps23
    go_wp2_with fail
    refine (spec_blockOk s A n c f B _ hP0 (by simp; omega)).mono ?_
    rintro e w1 ⟨rfl, hb1⟩
    rw [HO.out]
    have b1 := b0.trans (hb1.mono (by simp))
    clear x0 hP0 b0 hb1
    go_wp2
    go_ret
    exact ⟨ret_int HE.out.symm, b1⟩
set_option maxRecDepth 100000 in
set_option maxHeartbeats 8000000 in
theorem spec_leastC (s : Int) (A : Option Addr) (n c : Nat) (f : Nat → Nat → Int) (Av : Option Addr) (m cv : Nat) (zs : List Int) (B : Nat) (w : World) (hP : RowP 3 w B A n c f) (h : RowI .i64 w B Av m cv zs) (hB : B ≤ w.heap.size) :
    Calls Try.prog 27 #[.agg #[.int .i64 s, .slice A n c], .slice Av m cv] w fun e w' => e = .returned (.int .i64 (blockL s n f zs m)) ∧ Below w.heap.size w w' := by
  have b0 : Below w.heap.size w (w.alloc (.cells #[.int .i64 s, .slice A n c] 31)) := (Below.refl _ _).alloc (Nat.le_refl _) _
  have x0 : BoxB (w.alloc (.cells #[.int .i64 s, .slice A n c] 31)) w.heap.size s (.slice A n c) := ⟨by simp, by go_simp, by go_simp⟩
  have hP0 : RowP 3 (w.alloc (.cells #[.int .i64 s, .slice A n c] 31)) B A n c f := hP.keep fun p hp => b0.cell (by omega)
  rcases Bool.eq_false_or_eq_true (blockOk s n f) with hO | hO
  · have HO := Lib.hid hO
    rcases Bool.eq_false_or_eq_true (okList zs m 0 100) with hZ | hZ
    · obtain ⟨hm, hbd⟩ := okList_t hZ h.len
      have hbk := block_of hO
      obtain ⟨S, rfl⟩ : ∃ S : Nat, s = S := ⟨s.toNat, by have := hbk.s1; omega⟩
      have HE := Lib.hid (show blockL (S : Int) n f zs m = max 0 (leastC zs (prs S f S)) by unfold blockL; rw [hO, hZ, Int.toNat_natCast]; rfl)
      have hz6 : ∀ i, i < 6 → 0 ≤ nth zs i ∧ nth zs i ≤ 100 := fun i hi => hbd i (by omega)
      have HZ := Lib.hid hZ
      have hm6 : 6 ≤ m := by omega
      have HPR := Lib.hid (isPrs (s := S) (f := f) (fun k hk => hbk.ok k (by have h2 := hbk.sq; have h3 : ((S * S : Nat) : Int) = (S : Int) * (S : Int) := Int.natCast_mul S S; omega)) S (Nat.le_refl _))
      have hS4 := hbk.s4
      have HLN := Lib.hid (show (prs S f S).length ≤ 48 by have e := prs_len S f S; have e2 := Nat.mul_le_mul (show S ≤ 4 by omega) (show S ≤ 4 by omega); omega)
      obtain ⟨bz, oz, rfl, hbz, hx⟩ := h.2.2.2.2 (by omega)
      have HX := Lib.hid hx
      have HZ6 := Lib.hid hz6
      clear hO hZ hbd hbk hm hx hz6
      go_enter Try.func27, Try.ntmps27
      go_wp2_with fail
      refine (spec_blockOk S A n c f B _ hP0 (by simp; omega)).mono ?_
      rintro e w1 ⟨rfl, hb1⟩
      rw [HO.out]
      have x1 := x0.below hb1 x0.1
      have b1 := b0.trans (hb1.mono (by simp))
      have hP1 : RowP 3 w1 B A n c f := hP.keep fun p hp => b1.cell (by omega)
      have hI1 : RowI .i64 w1 B (some ⟨bz, oz, none⟩) m cv zs := h.keep fun p hp => b1.cell (by omega)
      have z1 := b1.size
      clear x0 hP0 b0 hb1
      obtain ⟨xz, xc0, xc1⟩ := id x1
      go_wp2_with fail
      refine (spec_contrastOk _ m cv zs B _ hI1).mono ?_
      rintro e w' ⟨rfl, rfl⟩
      rw [HZ.out]
      go_wp2_with fail
      refine (spec_all S A n c f B _ hP1 (by omega) HO.out).mono ?_
      rintro e w3 ⟨A2, c2, rfl, ho3, hb3⟩
      have b3 := b1.trans (hb3.mono (by omega))
      obtain ⟨P, hP'⟩ : ∃ P, P = prs S f S := ⟨_, rfl⟩
      rw [← hP'] at ho3 HPR HLN HE ⊢
      obtain ⟨N, hN'⟩ : ∃ N, N = P.length := ⟨_, rfl⟩
      have HN := Lib.hid hN'
      rw [← hN'] at ho3 HLN ⊢
      have hrow3 : RowII w3 w3.heap.size A2 N c2 (zOf P) := ho3.rowII fun i hi x hx => by
        obtain ⟨a, d, e, q⟩ := HPR.out _ (zOf_mem (L := P) (j := i) (by have e := HN.out; omega))
        rw [e] at hx
        simp only [List.mem_cons, List.not_mem_nil, or_false] at hx
        rcases hx with rfl | rfl <;> exact WalkArith.wf_i64 (by omega)
      clear hP' hN' ho3 hb3 b1 hP1 hI1 x1 xz xc0 xc1 hP h z1
      go_wp2_with fail
      go_loopw [5, 7, 8] (fun t i _ wr => ∃ j : Nat, j ≤ N ∧ i = .int .i64 j ∧ t = .int .i64 (leastC zs (P.take j)) ∧ RowII wr w3.heap.size A2 N c2 (zOf P) ∧ Below w.heap.size w wr) (fun _ i _ _ => N - (intOf i).toNat)
      case atStart => exact ⟨0, by omega, rfl, rfl, hrow3, b3⟩
      case round =>
        clear hrow3 b3
        obtain ⟨j, hj, rfl, rfl, hrow, hb⟩ := hrel
        obtain ⟨T, hT⟩ : ∃ T, T = leastC zs (P.take j) := ⟨_, rfl⟩
        have hTb := leastC_bd (L := P.take j) HZ6.out (fun p hp => HPR.out p (List.mem_of_mem_take hp))
        have hTl := List.length_take_le j P
        have hlen := HLN.out
        rw [← hT] at hTb ⊢
        have HT := Lib.hid hT.symm
        clear hT
        by_cases hlt : j < N
        · have j0 : (0 : Int) ≤ (j : Int) := by omega
          have j3 : (j : Int) < (N : Int) := by omega
          obtain ⟨bl, ol, rfl, hblB, Aj, cj, hcj, hrj⟩ := hrow.at_ hlt
          obtain ⟨a, d, hp, a0, a5, d0, d5⟩ := HPR.out _ (zOf_mem (L := P) (j := j) (by have e := HN.out; omega))
          rw [hp] at hcj hrj
          have HP2 := Lib.hid hp
          clear hp
          obtain ⟨bj, oj, rfl, hbjB, hxj⟩ := hrj.2.2.2.2 (by simp)
          have y0 : wr.cell? ⟨bj, oj, none⟩ = some (.int .i64 a) := hxj 0 (by simp)
          have y1 : wr.cell? ⟨bj, oj + 1, none⟩ = some (.int .i64 d) := hxj 1 (by simp)
          have hcj2 : wr.cell? ⟨bl, ol + j, none⟩ = some (.slice (some ⟨bj, oj, none⟩) 2 cj) := hcj
          have x1 := (hb.cell (p := ⟨bz, oz + a.toNat, none⟩) (show bz < w.heap.size by omega)).trans (HX.out a.toNat (by omega))
          have x2 := (hb.cell (p := ⟨bz, oz + d.toNat, none⟩) (show bz < w.heap.size by omega)).trans (HX.out d.toNat (by omega))
          have b1 := HZ6.out a.toNat (by omega)
          have b2 := HZ6.out d.toNat (by omega)
          have p3 : a < (m : Int) := by omega
          have p4 : d < (m : Int) := by omega
          have hg := gap_bd b1 b2
          clear hcj hrj hxj
          obtain ⟨G, hG⟩ : ∃ G, G = gap (nth zs a.toNat) (nth zs d.toNat) := ⟨_, rfl⟩
          have HS := Lib.hid (show leastC zs (P.take (j + 1)) = (if a != d && (decide (T < 0) || decide (G < T)) then G else T) by rw [take_zOf (by have e := HN.out; omega), HP2.out, leastC_snoc]; unfold lessC; rw [gapOf_two, HT.out, hG]; rfl)
          have HGG := Lib.hid hG
          clear hG hg
          rcases Bool.eq_false_or_eq_true (a == d) with q1 | q1
          · have q2 : (a != d) = false := by simp [bne, q1]
            have HR := Lib.hid (show leastC zs (P.take (j + 1)) = T by rw [HS.out, q2]; rfl)
            go_wp2_with fail
            go_quiet ((go_at_call 66; with_reducible exact quiet_gap (nth zs a.toNat) (nth zs d.toNat) _ _ b1 b2))
            rw [← HGG.out]
            rename_i nq1
            go_wp2_with fail
            go_quiet (fail)
            go_wp2
            go_roundw
            case rel => exact ⟨j + 1, by omega, by go_num, by rw [HR.out], hrow, ⟨hb.os, hb.tape, hb.output, hb.size, hb.block⟩⟩
            case measure => simp [intOf]; omega
          · have q2 : (a != d) = true := by simp [bne, q1]
            rcases Bool.eq_false_or_eq_true (decide (T < 0)) with q3 | q3
            · have HR := Lib.hid (show leastC zs (P.take (j + 1)) = G by rw [HS.out, q2, q3]; rfl)
              go_wp2_with fail
              go_quiet ((go_at_call 66; with_reducible exact quiet_gap (nth zs a.toNat) (nth zs d.toNat) _ _ b1 b2))
              rw [← HGG.out]
              rename_i nq1
              go_wp2_with fail
              go_quiet (fail)
              go_wp2
              go_roundw
              case rel => exact ⟨j + 1, by omega, by go_num, by rw [HR.out], hrow, ⟨hb.os, hb.tape, hb.output, hb.size, hb.block⟩⟩
              case measure => simp [intOf]; omega
            · rcases Bool.eq_false_or_eq_true (decide (G < T)) with q4 | q4
              · have HR := Lib.hid (show leastC zs (P.take (j + 1)) = G by rw [HS.out, q2, q3, q4]; rfl)
                go_wp2_with fail
                go_quiet ((go_at_call 66; with_reducible exact quiet_gap (nth zs a.toNat) (nth zs d.toNat) _ _ b1 b2))
                rw [← HGG.out]
                rename_i nq1
                go_wp2_with fail
                go_quiet (fail)
                go_wp2
                go_roundw
                case rel => exact ⟨j + 1, by omega, by go_num, by rw [HR.out], hrow, ⟨hb.os, hb.tape, hb.output, hb.size, hb.block⟩⟩
                case measure => simp [intOf]; omega
              · have HR := Lib.hid (show leastC zs (P.take (j + 1)) = T by rw [HS.out, q2, q3, q4]; rfl)
                go_wp2_with fail
                go_quiet ((go_at_call 66; with_reducible exact quiet_gap (nth zs a.toNat) (nth zs d.toNat) _ _ b1 b2))
                rw [← HGG.out]
                rename_i nq1
                go_wp2_with fail
                go_quiet (fail)
                go_wp2
                go_roundw
                case rel => exact ⟨j + 1, by omega, by go_num, by rw [HR.out], hrow, ⟨hb.os, hb.tape, hb.output, hb.size, hb.block⟩⟩
                case measure => simp [intOf]; omega
        · have j3 : ¬ (j : Int) < (N : Int) := by omega
          have HF := Lib.hid (show P.take j = P by rw [List.take_of_length_le (by have e := HN.out; omega)])
          rw [HF.out] at HT
          have HV := Lib.hid (show blockL (S : Int) n f zs m = max 0 T by rw [HE.out, ← HT.out])
          rcases (by omega : T < 0 ∨ T = 0 ∨ 0 < T) with hn | hn | hn
          · have HM := Lib.hid (show max 0 T = 0 by omega)
            have hn2 : T ≤ 0 := by omega
            go_wp2
            go_ret
            exact ⟨ret_int (by rw [HV.out, HM.out]), hb⟩
          · have HM := Lib.hid (show max 0 T = 0 by omega)
            have hn2 : ¬ T < 0 := by omega
            have hn3 : ¬ 0 < T := by omega
            go_wp2
            go_ret
            exact ⟨ret_int (by rw [HV.out, HM.out]), hb⟩
          · have HM := Lib.hid (show max 0 T = T by omega)
            have hn2 : ¬ T < 0 := by omega
            go_wp2
            go_ret
            exact ⟨ret_int (by rw [HV.out, HM.out]), hb⟩
    · have HE := Lib.hid (show blockL s n f zs m = -1 by unfold blockL; rw [hZ, Bool.and_false]; rfl)
      have HZ := Lib.hid hZ
      clear hO hZ
      go_enter Try.func27, Try.ntmps27
      go_wp2_with fail
      refine (spec_blockOk s A n c f B _ hP0 (by simp; omega)).mono ?_
      rintro e w1 ⟨rfl, hb1⟩
      rw [HO.out]
      have b1 := b0.trans (hb1.mono (by simp))
      have hI1 : RowI .i64 w1 B Av m cv zs := h.keep fun p hp => b1.cell (by omega)
      clear x0 hP0 b0 hb1
      go_wp2_with fail
      refine (spec_contrastOk Av m cv zs B _ hI1).mono ?_
      rintro e w' ⟨rfl, rfl⟩
      rw [HZ.out]
      go_wp2
      go_ret
      exact ⟨ret_int HE.out.symm, b1⟩
  · have HE := Lib.hid (show blockL s n f zs m = -1 by unfold blockL; rw [hO]; rfl)
    have HO := Lib.hid hO
    clear hO
    go_enter Try.func27, Try.ntmps27
    go_wp2_with fail
    refine (spec_blockOk s A n c f B _ hP0 (by simp; omega)).mono ?_
    rintro e w1 ⟨rfl, hb1⟩
    rw [HO.out]
    have b1 := b0.trans (hb1.mono (by simp))
    clear x0 hP0 b0 hb1
    go_wp2
    go_ret
    exact ⟨ret_int HE.out.symm, b1⟩
end Go.Proofs.Ythenjmjnooaokaa
