/- Contract of the program's OneThread. -/
import Derived.Test.YtkgabnhfjmldbaaGo
import Derived.Test.YtkgabnhfjmldbaaAppL
import Derived.Deep.RegionHeld3
import Derived.Deep.RegionLaw
namespace Go.Proofs.Ytkgabnhfjmldbaa
open Go.ChangeShapes Go.WideShapes Go.ChangeAt Go.RowKit
def OnePost (n : Int) (l : Nat) (f : Nat → Nat → Int) (w : World) (e : Ending) (w' : World) : Prop := ∃ A c, e = .returned (.tuple #[.slice A (oneW n l f).length c, .bool (oneTh n l f)]) ∧ OwnI w' w.heap.size (.slice A (oneW n l f).length c) (oneW n l f) ∧ Below w.heap.size w w'
theorem oneW_no {n : Int} {l : Nat} {f : Nat → Nat → Int} (h : oneTh n l f = false) : oneW n l f = [] := by unfold oneW; rw [if_neg (by rw [h]; decide)]
def lenOf : Value → Nat
  | .slice _ k _ => k
  | _ => 0
theorem catS_zero (f g : Nat → Nat → Int) (i j : Nat) : catS f 0 g i j = g i j := by unfold catS; rw [if_neg (by omega), Nat.sub_zero]
theorem best_no {N : Nat} {f : Nat → Nat → Int} {l now j : Nat} (h : okAt N f l now j = false ∨ ¬ other (f j) now < (bestTo N f l now j).1) : bestTo N f l now (j + 1) = bestTo N f l now j := by
  simp only [bestTo]
  rw [if_neg]
  intro q
  rw [Bool.and_eq_true] at q
  rcases h with h | h
  · rw [h] at q; exact absurd q.1 (by decide)
  · exact h (of_decide_eq_true q.2)
theorem best_yes {N : Nat} {f : Nat → Nat → Int} {l now j u : Nat} (h : okAt N f l now j = true) (hu : other (f j) now = (u : Int)) (hlt : (u : Int) < (bestTo N f l now j).1) : bestTo N f l now (j + 1) = (u, (j : Int)) := by
  simp only [bestTo]
  rw [if_pos (by rw [h, hu, decide_eq_true hlt]; rfl), hu, Int.toNat_natCast]
theorem best_bd (N : Nat) (f : Nat → Nat → Int) (l now : Nat) : ∀ j, (bestTo N f l now j).1 ≤ N ∧ -1 ≤ (bestTo N f l now j).2 ∧ (bestTo N f l now j).2 ≤ j := by
  intro j
  induction j with
  | zero => exact ⟨Nat.le_refl _, Int.le_refl _, by simp [bestTo]⟩
  | succ j ih =>
    simp only [bestTo]
    split
    · rename_i h
      have h2 := of_decide_eq_true (Bool.and_eq_true_iff.1 h).2
      simp only
      omega
    · omega
theorem okAt_neg {N : Nat} {f : Nat → Nat → Int} {l now j : Nat} (h : other (f j) now = -1) : okAt N f l now j = false := by
  unfold okAt; rw [h]; rfl
theorem okAt_pos {N : Nat} {f : Nat → Nat → Int} {l now j u : Nat} (h : other (f j) now = (u : Int)) : okAt N f l now j = canGo N (rem f j) (l - 1) u := by
  unfold okAt; rw [h, decide_eq_true (by omega), Bool.true_and, Int.toNat_natCast]

set_option maxRecDepth 100000 in
set_option maxHeartbeats 8000000 in
theorem impl_one (n : Int) (A : Option Addr) (l c : Nat) (f : Nat → Nat → Int) (B : Nat) (w : World) (h : RowP 2 w B A l c f) (hB : B ≤ w.heap.size) :
    Calls Try.prog 12 #[.int .i64 n, .slice A l c] w (OnePost n l f w) := by
  rcases (Bool.eq_false_or_eq_true (oneTh n l f)).symm with hT | hT
  · have HT := Lib.hid hT
    have HW := Lib.hid (oneW_no hT)
    obtain ⟨T, hTT⟩ : ∃ T, T = threads n l f := ⟨_, rfl⟩
    have d1 : (T == 1) = false := by rw [hTT]; exact hT
    have d2 : (T != 1) = true := by simp only [bne, d1, Bool.not_false]
    clear hT
    go_enter Try.func12, Try.ntmps12
    go_wp2_with fail
    refine (impl_threads n A l c f B w h hB).mono ?_
    rintro e w1 ⟨rfl, b1⟩
    rw [← hTT]
    clear hTT
    go_wp2
    go_ret2
    exact ⟨none, 0, by rw [HW.out, HT.out]; rfl, by rw [HW.out]; exact own_nil _ _, b1⟩
  obtain ⟨hL, hin, h1⟩ := oneTh_t hT
  have n1 := hL.n1
  have n10 := hL.n10
  have hl := hL.l20
  obtain ⟨N, rfl⟩ : ∃ N : Nat, n = N := ⟨n.toNat, by omega⟩
  rw [Int.toNat_natCast] at hin h1
  have hN1 : 1 ≤ N := by omega
  have hN : N ≤ 10 := by omega
  obtain ⟨v, hv, hst, hg, hd, hz⟩ := start_go hin h1
  obtain ⟨hh, ho⟩ := thr_is_one hin h1
  have HW := Lib.hid (show oneW N l f = (v : Int) :: walkL N l f v by unfold oneW; rw [if_pos hT, Int.toNat_natCast, hst, Int.toNat_natCast])
  have HT := Lib.hid hT
  have HTH := Lib.hid (show threads N l f = 1 from beq_iff_eq.1 hT)
  have hl1 : 0 < l := by
    rcases Nat.eq_zero_or_pos l with q | q
    · rw [q] at hd; simp [degTo] at hd
    · exact q
  have HH := Lib.hid (show (heads N f l).length = 1 by unfold heads; rw [membs_cnt]; exact hh)
  have HOL := Lib.hid (show (odds N f l).length = cnt (isOdd f l) N by unfold odds; rw [membs_cnt])
  have HS2 := Lib.hid (show cnt (isOdd f l) N = 2 → nth (odds N f l) 0 = (v : Int) by
    intro q; rw [← hst]; unfold start; rw [if_pos (by omega)])
  have HIN := Lib.hid hin
  have HG := Lib.hid hg
  have HZ := Lib.hid hz
  clear hT hst hh h1 n1 n10 hL hg hz hin hd
  obtain ⟨ad, off, rfl⟩ : ∃ ad off, A = some ⟨ad, off, none⟩ := by obtain ⟨b, off, e, _⟩ := h.at_ hl1; exact ⟨b, off, e⟩
  go_enter Try.func12, Try.ntmps12
  go_wp2_with fail
  refine (impl_threads N _ l c f B w h hB).mono ?_
  rintro e w1 ⟨rfl, b1⟩
  rw [HTH.out]
  go_wp2_with fail
  refine (impl_heads N _ l c f B w1 (h.below' b1 hB) (by have := b1.size; omega) hN1 hN hl HIN.out).mono ?_
  rintro e w2 ⟨A2, c2, rfl, o2, b2⟩
  have b3 := b1.trans (b2.mono b1.size)
  rw [HH.out] at o2 ⊢
  obtain ⟨g2, rfl⟩ := ownI_got o2 (by omega)
  have x2 := o2.cellAt (j := 0) (by rw [HH.out]; omega)
  obtain ⟨H0, hH0⟩ : ∃ q, q = nth (heads N f l) 0 := ⟨_, rfl⟩
  rw [← hH0] at x2
  have HH0 := Lib.hid hH0
  clear hH0 o2
  go_wp2_with fail
  clear x2
  refine (impl_odd N _ l c f B w2 (h.below' b3 hB) (by have := b3.size; omega) hN hl HIN.out).mono ?_
  rintro e w3 ⟨A3, c3, rfl, o3, b4⟩
  have b5 := b3.trans (b4.mono b3.size)
  rw [HOL.out] at o3 ⊢
  have hE : OwnS 2 43 ((w3.alloc (.cells #[.int .i64 v] 3)).alloc (.cells #[] 43)) (w3.heap.size + 1) (.slice (some ⟨w3.heap.size + 1, 0, none⟩) 0 0) 0 f := by simpa using ownS_empty 2 43 (w3.alloc (.cells #[.int .i64 (v : Int)] 3)) f
  have hU : OwnI ((w3.alloc (.cells #[.int .i64 v] 3)).alloc (.cells #[] 43)) w3.heap.size (.slice (some ⟨w3.heap.size, 0, none⟩) 1 1) [(v : Int)] := (own_one w3 v).alloc _
  have bW : Below w.heap.size w ((w3.alloc (.cells #[.int .i64 v] 3)).alloc (.cells #[] 43)) := (b5.alloc b5.size _).alloc (by have := b5.size; simp; omega) _
  have HNW := Lib.hid (news_rowP (by decide) (h.below' bW hB))
  have z3 := b5.size
  clear b1 b2 b3 b4 h hB
  rcases ho with ho | ho
  · rw [ho] at o3 ⊢
    clear o3
    obtain rfl : H0 = (v : Int) := by rw [HH0.out]; exact (HZ.out ho).1
    have HO0 := Lib.hid ho
    clear ho
    go_wp2_with (at_builtin; refine appL_plain (by rfl) _ _ (by rfl) (w3.heap.size + 1) 0 l c l _ f f f ⟨ad, off, none⟩ (by rfl) hE (by rfl) HNW.out (by omega) (fun i _ j _ => catS_zero f f i j) (by omega) (by simp) ?_; intro A5 c5 w5 ho5 hg5)
    have hu5 := OwnI.apart (A' := some ⟨w3.heap.size + 1, 0, none⟩) hU hg5 (own_ne (by decide) hU hE)
    have b6 : Below w.heap.size w w5 := bW.grown hg5 (by simp; omega) (fun k hk => by cases hk; show w.heap.size ≤ w3.heap.size + 1; omega)
    replace ho5 := ho5.base_ (show w.heap.size ≤ w3.heap.size + 1 by omega)
    replace hu5 := hu5.base (show w.heap.size ≤ w3.heap.size by omega)
    clear hE hU bW hg5 b5
    go_loopw [6, 8, 9] (fun nv ov lv wr => ∃ (L v' : Nat) (F : Nat → Nat → Int) (A1 A2 : Option Addr) (c1 c2 : Nat) (D : List Int), nv = .int .i64 v' ∧ ov = .slice A1 (l + 1 - L) c1 ∧ lv = .slice A2 L c2 ∧ L ≤ l ∧ v' < N ∧ Hid (inN N F L) ∧ Hid (canGo N F L v' = true) ∧ Hid (oneW N l f = D ++ walkL N L F v') ∧ Hid (D.length = l + 1 - L) ∧ OwnI wr w.heap.size (.slice A1 (l + 1 - L) c1) D ∧ OwnS 2 43 wr w.heap.size (.slice A2 L c2) L F ∧ Below w.heap.size w wr) (fun _ _ lv _ => lenOf lv)
    case atStart => exact ⟨l, v, f, _, _, 1, c5, [(v : Int)], rfl, by rw [show l + 1 - l = 1 by omega], rfl, Nat.le_refl _, hv, HIN, HG, Lib.hid (by rw [HW.out]; rfl), Lib.hid (by simp <;> omega), by rw [show l + 1 - l = 1 by omega]; exact hu5, ho5, b6⟩
    case round =>
      clear ho5 hu5 b6
      obtain ⟨L, v', F, A1, A2, c1, c2, D, rfl, rfl, rfl, hLl, hv', HI, HC, HD, HDL, oU, oL, hb⟩ := hrel
      have hbz := hb.size
      rcases (by omega : L = 0 ∨ 0 < L) with q0 | q0
      · subst q0
        have HD2 := Lib.hid (show oneW N l f = D by rw [HD.out]; simp [walkL])
        go_wp2
        go_ret2
        exact ⟨A1, c1, by rw [HD2.out, HDL.out, HT.out]; rfl, by rw [HD2.out, HDL.out]; exact oU, hb⟩
      have HLl := Lib.hid hLl
      obtain ⟨G, rfl⟩ := oL.some_ q0
      obtain ⟨t, k, hbst, ht, hk, hN3⟩ := best_next HI.out hv' q0 HC.out
      have HB := Lib.hid hbst
      have HN3 := Lib.hid hN3
      have q1 : (0 : Int) < (L : Int) := by omega
      clear hbst hN3
      go_wp2_with fail
      go_loopw [10, 11, 44] (fun bv av iv wx => ∃ j : Nat, j ≤ L ∧ iv = .int .i64 j ∧ bv = .int .i64 ((bestTo N F L v' j).1 : Nat) ∧ av = .int .i64 (bestTo N F L v' j).2 ∧ OwnI wx w.heap.size (.slice A1 (l + 1 - L) c1) D ∧ OwnS 2 43 wx w.heap.size (.slice (some ⟨G, 0, none⟩) L c2) L F ∧ Below w.heap.size w wx) (fun _ _ iv _ => L - (intOf iv).toNat)
      case atStart => exact ⟨0, by omega, rfl, rfl, rfl, oU, oL, hb⟩
      case round =>
        clear oU oL hb hbz
        obtain ⟨j, hj, rfl, rfl, rfl, oU, oL, hb⟩ := hrel
        have hbz := hb.size
        have hbd := best_bd N F L v' j
        by_cases hlt : j < L
        · have j0 : (0 : Int) ≤ (j : Int) := by omega
          have j3 : (j : Int) < (L : Int) := by omega
          have x0 : wr.cell? ⟨G, j * 2, none⟩ = some (.int .i64 (F j 0)) := oL.cellAt (j := 0) hlt (by omega)
          have x1 : wr.cell? ⟨G, j * 2 + 1, none⟩ = some (.int .i64 (F j 1)) := oL.cellAt (j := 1) hlt (by omega)
          have hin2 := HI.out j hlt
          have HO := Lib.hid (show other (F j) v' = if F j 0 = v' then F j 1 else if F j 1 = v' then F j 0 else -1 from rfl)
          have zG : G < wr.heap.size := oL.ge.2
          have hoA := (oL.alloc (.cells #[.int .i64 (F j 0), .int .i64 (F j 1)] 43))
          have huA := (oU.alloc (.cells #[.int .i64 (F j 0), .int .i64 (F j 1)] 43))
          have hbA := hb.alloc hbz (.cells #[.int .i64 (F j 0), .int .i64 (F j 1)] 43)
          obtain ⟨P, hP⟩ : ∃ P, P = F j 0 := ⟨_, rfl⟩
          obtain ⟨Q, hQ⟩ : ∃ Q, Q = F j 1 := ⟨_, rfl⟩
          rw [← hP] at x0 HO
          rw [← hQ] at x1 HO
          rw [← hP, ← hQ] at hoA huA hbA hin2
          have HBJ := Lib.hid (show True from trivial)
          have HS : Hid (∀ u : Nat, other (F j) v' = (u : Int) → (u : Int) < ((bestTo N F L v' j).1 : Int) → okAt N F L v' j = true → bestTo N F L v' (j + 1) = (u, (j : Int))) := Lib.hid fun u h1 h2 h3 => best_yes h3 h1 h2
          have HSN : Hid ((okAt N F L v' j = false ∨ ¬ other (F j) v' < ((bestTo N F L v' j).1 : Int)) → bestTo N F L v' (j + 1) = bestTo N F L v' j) := Lib.hid best_no
          obtain ⟨bb, hbb⟩ : ∃ q, q = (bestTo N F L v' j).1 := ⟨_, rfl⟩
          obtain ⟨ba, hba⟩ : ∃ q, q = (bestTo N F L v' j).2 := ⟨_, rfl⟩
          have HBB := Lib.hid (show bestTo N F L v' j = (bb, ba) by rw [hbb, hba])
          rw [← hbb, ← hba] at hbd
          rw [← hbb] at HS HSN
          rw [← hbb, ← hba]
          clear hP hQ hbb hba
          rcases (by omega : P = (v' : Int) ∨ (P ≠ (v' : Int) ∧ Q = (v' : Int)) ∨ (P ≠ (v' : Int) ∧ Q ≠ (v' : Int))) with e | ⟨e, e2⟩ | ⟨e, e2⟩
          · skip
            have HO2 := Lib.hid (show other (F j) v' = Q by rw [HO.out, if_pos e])
            subst e
            have p1 : ((v' : Int) == (v' : Int)) = true := beq_iff_eq.2 rfl
            rcases (by omega : ¬ Q < (bb : Int) ∨ Q < (bb : Int)) with r | r
            · have r0 : decide ((0 : Int) ≤ Q) = true := decide_eq_true (by omega)
              have r1 : decide (Q < (bb : Int)) = false := decide_eq_false r
              have r2 := Lib.hid r
              clear r
              have HE := Lib.hid (HSN.out (.inr (by rw [HO2.out]; exact r2.out)))
              go_wp2_with fail
              go_region
              clear x0 x1
              go_wp2
              go_roundw
              case rel => exact ⟨j + 1, by omega, by go_num, by rw [HE.out, HBB.out], by rw [HE.out, HBB.out], huA.drew, hoA.drew, hbA.drew⟩
              case measure => simp [intOf]; omega
            · have r0 : (0 : Int) ≤ Q := by omega
              obtain ⟨u, hu⟩ : ∃ u : Nat, Q = u := ⟨(Q).toNat, by omega⟩
              subst hu
              have HO3 := Lib.hid (show other (F j) v' = (u : Int) from HO2.out)
              have huN : u < N := by omega
              have r2 := Lib.hid r
              have hE : OwnS 2 43 ((wr.alloc (.cells #[.int .i64 (v' : Int), .int .i64 (u : Int)] 43)).drew.alloc (.cells #[] 43)) (wr.heap.size + 1) (.slice (some ⟨wr.heap.size + 1, 0, none⟩) 0 0) 0 F := by simpa using ownS_empty 2 43 (wr.alloc (.cells #[.int .i64 (v' : Int), .int .i64 (u : Int)] 43)).drew F
              have hoW := hoA.drew.alloc (.cells #[] 43)
              have huW := huA.drew.alloc (.cells #[] 43)
              have hbW := hbA.drew.alloc (show w.heap.size ≤ _ by simp; omega) (.cells #[] 43)
              have HN1 := Lib.hid (news_own (hoW.pre (show j ≤ L by omega)))
              have hLc := oL.le
              obtain ⟨AD, hAD, hAN⟩ := sub_addr (m := 2) (e := 43) (base := w.heap.size) (g := G) (n := L) (c := c2) (lo := j + 1) (f := F) (by decide) hLc
              have HAN := Lib.hid hAN
              have HNE : Hid (∀ k, blk (some (⟨G, 0, none⟩ : Addr)) = some k → blk (some (⟨wr.heap.size + 1, 0, none⟩ : Addr)) = some k → False) := Lib.hid fun k hk hk' => by
                have e1 : G = k := Option.some.inj hk
                have e2 : wr.heap.size + 1 = k := Option.some.inj hk'
                omega
              have HCR := Lib.hid (show ∀ i, i < L - 1 → ∀ b, b < 2 → catS F j (fun k => F (j + 1 + k)) i b = rem F j i b from fun i _ b _ => by rw [catS_rem])
              have HIR : Hid (∀ k, k < L - 1 → 0 ≤ rem F j k 0 ∧ rem F j k 0 < N ∧ 0 ≤ rem F j k 1 ∧ rem F j k 1 < N ∧ rem F j k 0 ≠ rem F j k 1) := Lib.hid (inN_rem HI.out hlt)
              have HWR := Lib.hid (show ∀ i, i < L - 1 → ∀ b, b < 2 → (Lit.int .i64 (rem F j i b)).wf = true from fun i hi b hb => WalkArith.wf_i64 (by
                have := HIR.out i hi
                rcases (by omega : b = 0 ∨ b = 1) with rfl | rfl <;> omega))
              have hic : j ≤ c2 := by omega
              have hwr : IntKind.i64.wrap ((j : Int) + 1) = (j : Int) + 1 := IntWalk.i64_in _ (by omega)
              have hp0 : (0 : Int) ≤ (j : Int) + 1 := by omega
              have hp1 : (j : Int) + 1 ≤ (L : Int) := by omega
              have hp2 : ((j : Int) + 1).toNat = j + 1 := by omega
              clear hAN hLc oL oU hb hbd
              go_wp2_with fail
              go_region_held3 (fun _ => True) (first | go_keep | trivial) (first | (refine appL_drawn (by rfl) (.tmp 70) (.tmp 73) (by rfl) (wr.heap.size + 1) 0 j c2 j _ F F F ⟨G, 0, none⟩ (by rfl) hE (by rfl) HN1.out (by omega) (fun i _ j _ => catS_zero F F i j) (by omega) (by simp) ?_; intro A7 c7 w7 ho7 hg7; have hL7 := OwnS.apart (A' := some ⟨wr.heap.size + 1, 0, none⟩) hoW hg7 HNE.out; have hU7 := OwnI.apart (A' := some ⟨wr.heap.size + 1, 0, none⟩) huW hg7 (own_ne (by decide) huW hE); have b7 := hbW.grown hg7 (by simp; omega) (fun k hk => by cases hk; show w.heap.size ≤ wr.heap.size + 1; omega)) | (refine appL_drawn (by rfl) (.tmp 74) (.tmp 78) (by rfl) (wr.heap.size + 1) j (L - (j + 1)) (c2 - (j + 1)) (L - 1) _ F (fun k => F (j + 1 + k)) (rem F j) AD (by rfl) ho7 (by rfl) (HAN.out w7 hL7) (by omega) HCR.out (by omega) (by have := hg7.size; simp at this; omega) ?_; intro A8 c8 w8 ho8 hg8; rw [ownBlock_blk] at hg8; have hL8 := OwnS.apart hL7 hg8 (fun k hk hk' => by have e1 : G = k := Option.some.inj hk; have := ho7.ge' k hk'; omega); have hU8 := OwnI.apart hU7 hg8 (own_ne (by decide) hU7 ho7); have b8 := b7.grown hg8 b7.size (fun k hk => by have := ho7.ge' k hk; omega)) | (go_at_call 33; ((with_reducible refine (impl_canGo N u A8 (L - 1) c8 (rem F j) _ _ (ho8.rowP HWR.out) (Nat.le_refl _) hN1 hN (by omega) HIR.out huN).mono ?_); rintro e w9 ⟨rfl, hb9⟩); have hL9 := hL8.keep hb9; have hU9 := hU8.keep hb9; have b9 := b8.trans (hb9.mono b8.size)))
              clear x0 x1 hAD
              obtain ⟨R, hR⟩ : ∃ R, R = canGo N (rem F j) (L - 1) u := ⟨_, rfl⟩
              rw [← hR]
              have HOK := Lib.hid (show okAt N F L v' j = R by rw [okAt_pos HO3.out, hR])
              clear hR
              rcases (Bool.eq_false_or_eq_true R).symm with z | z
              · have HE := Lib.hid (HSN.out (.inl (by rw [HOK.out, z])))
                subst z
                go_wp2
                go_roundw
                case rel => exact ⟨j + 1, by omega, by go_num, by rw [HE.out, HBB.out], by rw [HE.out, HBB.out], hU9, hL9, b9⟩
                case measure => simp [intOf]; omega
              · have HE := Lib.hid (HS.out u HO3.out r2.out (by rw [HOK.out, z]))
                subst z
                go_wp2
                go_roundw
                case rel => exact ⟨j + 1, by omega, by go_num, by rw [HE.out], by rw [HE.out], hU9, hL9, b9⟩
                case measure => simp [intOf]; omega
          · skip
            have p1 : (P == (v' : Int)) = false := beq_eq_false_iff_ne.2 e
            have HO2 := Lib.hid (show other (F j) v' = P by rw [HO.out, if_neg e, if_pos e2])
            have He := Lib.hid e
            clear e
            subst e2
            have p2 : ((v' : Int) == (v' : Int)) = true := beq_iff_eq.2 rfl
            rcases (by omega : ¬ P < (bb : Int) ∨ P < (bb : Int)) with r | r
            · have r0 : decide ((0 : Int) ≤ P) = true := decide_eq_true (by omega)
              have r1 : decide (P < (bb : Int)) = false := decide_eq_false r
              have r2 := Lib.hid r
              clear r
              have HE := Lib.hid (HSN.out (.inr (by rw [HO2.out]; exact r2.out)))
              go_wp2_with fail
              go_region
              clear x0 x1
              go_wp2
              go_roundw
              case rel => exact ⟨j + 1, by omega, by go_num, by rw [HE.out, HBB.out], by rw [HE.out, HBB.out], huA.drew, hoA.drew, hbA.drew⟩
              case measure => simp [intOf]; omega
            · have r0 : (0 : Int) ≤ P := by omega
              obtain ⟨u, hu⟩ : ∃ u : Nat, P = u := ⟨(P).toNat, by omega⟩
              subst hu
              have HO3 := Lib.hid (show other (F j) v' = (u : Int) from HO2.out)
              have huN : u < N := by omega
              have r2 := Lib.hid r
              have hE : OwnS 2 43 ((wr.alloc (.cells #[.int .i64 (u : Int), .int .i64 (v' : Int)] 43)).drew.alloc (.cells #[] 43)) (wr.heap.size + 1) (.slice (some ⟨wr.heap.size + 1, 0, none⟩) 0 0) 0 F := by simpa using ownS_empty 2 43 (wr.alloc (.cells #[.int .i64 (u : Int), .int .i64 (v' : Int)] 43)).drew F
              have hoW := hoA.drew.alloc (.cells #[] 43)
              have huW := huA.drew.alloc (.cells #[] 43)
              have hbW := hbA.drew.alloc (show w.heap.size ≤ _ by simp; omega) (.cells #[] 43)
              have HN1 := Lib.hid (news_own (hoW.pre (show j ≤ L by omega)))
              have hLc := oL.le
              obtain ⟨AD, hAD, hAN⟩ := sub_addr (m := 2) (e := 43) (base := w.heap.size) (g := G) (n := L) (c := c2) (lo := j + 1) (f := F) (by decide) hLc
              have HAN := Lib.hid hAN
              have HNE : Hid (∀ k, blk (some (⟨G, 0, none⟩ : Addr)) = some k → blk (some (⟨wr.heap.size + 1, 0, none⟩ : Addr)) = some k → False) := Lib.hid fun k hk hk' => by
                have e1 : G = k := Option.some.inj hk
                have e2 : wr.heap.size + 1 = k := Option.some.inj hk'
                omega
              have HCR := Lib.hid (show ∀ i, i < L - 1 → ∀ b, b < 2 → catS F j (fun k => F (j + 1 + k)) i b = rem F j i b from fun i _ b _ => by rw [catS_rem])
              have HIR : Hid (∀ k, k < L - 1 → 0 ≤ rem F j k 0 ∧ rem F j k 0 < N ∧ 0 ≤ rem F j k 1 ∧ rem F j k 1 < N ∧ rem F j k 0 ≠ rem F j k 1) := Lib.hid (inN_rem HI.out hlt)
              have HWR := Lib.hid (show ∀ i, i < L - 1 → ∀ b, b < 2 → (Lit.int .i64 (rem F j i b)).wf = true from fun i hi b hb => WalkArith.wf_i64 (by
                have := HIR.out i hi
                rcases (by omega : b = 0 ∨ b = 1) with rfl | rfl <;> omega))
              have hic : j ≤ c2 := by omega
              have hwr : IntKind.i64.wrap ((j : Int) + 1) = (j : Int) + 1 := IntWalk.i64_in _ (by omega)
              have hp0 : (0 : Int) ≤ (j : Int) + 1 := by omega
              have hp1 : (j : Int) + 1 ≤ (L : Int) := by omega
              have hp2 : ((j : Int) + 1).toNat = j + 1 := by omega
              clear hAN hLc oL oU hb hbd
              go_wp2_with fail
              go_region_held3 (fun _ => True) (first | go_keep | trivial) (first | (refine appL_drawn (by rfl) (.tmp 70) (.tmp 73) (by rfl) (wr.heap.size + 1) 0 j c2 j _ F F F ⟨G, 0, none⟩ (by rfl) hE (by rfl) HN1.out (by omega) (fun i _ j _ => catS_zero F F i j) (by omega) (by simp) ?_; intro A7 c7 w7 ho7 hg7; have hL7 := OwnS.apart (A' := some ⟨wr.heap.size + 1, 0, none⟩) hoW hg7 HNE.out; have hU7 := OwnI.apart (A' := some ⟨wr.heap.size + 1, 0, none⟩) huW hg7 (own_ne (by decide) huW hE); have b7 := hbW.grown hg7 (by simp; omega) (fun k hk => by cases hk; show w.heap.size ≤ wr.heap.size + 1; omega)) | (refine appL_drawn (by rfl) (.tmp 74) (.tmp 78) (by rfl) (wr.heap.size + 1) j (L - (j + 1)) (c2 - (j + 1)) (L - 1) _ F (fun k => F (j + 1 + k)) (rem F j) AD (by rfl) ho7 (by rfl) (HAN.out w7 hL7) (by omega) HCR.out (by omega) (by have := hg7.size; simp at this; omega) ?_; intro A8 c8 w8 ho8 hg8; rw [ownBlock_blk] at hg8; have hL8 := OwnS.apart hL7 hg8 (fun k hk hk' => by have e1 : G = k := Option.some.inj hk; have := ho7.ge' k hk'; omega); have hU8 := OwnI.apart hU7 hg8 (own_ne (by decide) hU7 ho7); have b8 := b7.grown hg8 b7.size (fun k hk => by have := ho7.ge' k hk; omega)) | (go_at_call 33; ((with_reducible refine (impl_canGo N u A8 (L - 1) c8 (rem F j) _ _ (ho8.rowP HWR.out) (Nat.le_refl _) hN1 hN (by omega) HIR.out huN).mono ?_); rintro e w9 ⟨rfl, hb9⟩); have hL9 := hL8.keep hb9; have hU9 := hU8.keep hb9; have b9 := b8.trans (hb9.mono b8.size)))
              clear x0 x1 hAD
              obtain ⟨R, hR⟩ : ∃ R, R = canGo N (rem F j) (L - 1) u := ⟨_, rfl⟩
              rw [← hR]
              have HOK := Lib.hid (show okAt N F L v' j = R by rw [okAt_pos HO3.out, hR])
              clear hR
              rcases (Bool.eq_false_or_eq_true R).symm with z | z
              · have HE := Lib.hid (HSN.out (.inl (by rw [HOK.out, z])))
                subst z
                go_wp2
                go_roundw
                case rel => exact ⟨j + 1, by omega, by go_num, by rw [HE.out, HBB.out], by rw [HE.out, HBB.out], hU9, hL9, b9⟩
                case measure => simp [intOf]; omega
              · have HE := Lib.hid (HS.out u HO3.out r2.out (by rw [HOK.out, z]))
                subst z
                go_wp2
                go_roundw
                case rel => exact ⟨j + 1, by omega, by go_num, by rw [HE.out], by rw [HE.out], hU9, hL9, b9⟩
                case measure => simp [intOf]; omega
          · skip
            have p1 : (P == (v' : Int)) = false := beq_eq_false_iff_ne.2 e
            have p2 : (Q == (v' : Int)) = false := beq_eq_false_iff_ne.2 e2
            have HO2 := Lib.hid (show other (F j) v' = -1 by rw [HO.out, if_neg e, if_neg e2])
            clear e e2
            have r0 : ¬ (0 : Int) ≤ -1 := by omega
            have HE := Lib.hid (HSN.out (.inl (okAt_neg HO2.out)))
            go_wp2_with fail
            go_region
            clear x0 x1
            go_wp2
            go_roundw
            case rel => exact ⟨j + 1, by omega, by go_num, by rw [HE.out, HBB.out], by rw [HE.out, HBB.out], huA.drew, hoA.drew, hbA.drew⟩
            case measure => simp [intOf]; omega
        · obtain rfl : j = L := by omega
          have j3 : ¬ (j : Int) < (j : Int) := by omega
          have zG := oL.ge
          have hoA := oL.alloc (.cells #[.int .i64 t] 3)
          have huA := oU.alloc (.cells #[.int .i64 t] 3)
          have hbA := hb.alloc hbz (.cells #[.int .i64 t] 3)
          have HNE := Lib.hid (own_ne (by decide) huA hoA)
          have hLc := oL.le
          obtain ⟨AD, hAD, hAN⟩ := sub_addr (m := 2) (e := 43) (base := w.heap.size) (g := G) (n := j) (c := c2) (lo := k + 1) (f := F) (by decide) hLc
          have HAN := Lib.hid hAN
          have HCR := Lib.hid (show ∀ i, i < j - 1 → ∀ b, b < 2 → catS F k (fun i => F (k + 1 + i)) i b = rem F k i b from fun i _ b _ => by rw [catS_rem])
          have hwr : IntKind.i64.wrap ((k : Int) + 1) = (k : Int) + 1 := IntWalk.i64_in _ (by omega)
          have hp0 : (0 : Int) ≤ (k : Int) + 1 := by omega
          have hp1 : (k : Int) + 1 ≤ (j : Int) := by omega
          have hp2 : ((k : Int) + 1).toNat = k + 1 := by omega
          have hp3 : (k : Int) ≤ (j : Int) := by omega
          have hp4 : (0 : Int) ≤ (k : Int) := by omega
          have hic : k ≤ c2 := by omega
          have HI2 := Lib.hid (inN_rem HI.out hk)
          have HC2 := Lib.hid (next_go HN3.out)
          have HD2 := Lib.hid (show oneW N l f = (D ++ [(t : Int)]) ++ walkL N (j - 1) (rem F k) t by rw [HD.out, walkL_next HB.out q0]; simp)
          have HDL2 := Lib.hid (show (D ++ [(t : Int)]).length = l + 1 - (j - 1) by rw [List.length_append, HDL.out]; simp; omega)
          rw [HB.out]
          clear hAN hLc hbd
          go_wp2_with (at_builtin; refine appI_grown (by rfl) _ _ (by rfl) w.heap.size (l + 1 - j) _ D (t : Int) wr.heap.size HDL.out (by rfl) huA (by rfl) (heap_alloc_new wr _) (by omega) (by simp; omega) ?_; intro A7 c7 w7 ho7 hg7; rw [ownBlock_blk] at hg7)
          have hL7 := OwnS.apart hoA hg7 (fun k hk hk' => HNE.out k hk' hk)
          have b7 := hbA.grown hg7 (by simp; omega) (fun k hk => (huA.ge' k hk).1)
          have z7 := b7.size
          clear hoA huA hbA hg7 oU oL hb
          go_region_held3 (fun _ => True) (first | go_keep | trivial) (first | (refine appL_drawn (by rfl) (.tmp 93) (.tmp 97) (by rfl) w.heap.size k (j - (k + 1)) (c2 - (k + 1)) (j - 1) _ F (fun i => F (k + 1 + i)) (rem F k) AD (by rfl) (OwnS.pre hL7.drew (by omega)) (by rfl) (HAN.out _ hL7.drew) (by omega) HCR.out (by omega) z7 ?_; intro A8 c8 w8 ho8 hg8; have hU8 := OwnI.apart (A' := some ⟨G, 0, none⟩) ho7.drew hg8 (own_ne (by decide) ho7 hL7); have b8 := b7.drew.grown hg8 z7 (fun q hq => by cases hq; exact zG.1)))
          go_wp2
          go_roundw
          case rel => exact ⟨j - 1, t, rem F k, A7, A8, c7, c8, D ++ [(t : Int)], rfl, by rw [show l + 1 - j + 1 = l + 1 - (j - 1) by omega], rfl, by omega, ht, HI2, HC2, HD2, HDL2, by rw [show l + 1 - (j - 1) = l + 1 - j + 1 by omega]; exact hU8, ho8, b8⟩
          case measure => simp [lenOf]; omega
  · rw [ho] at o3 ⊢
    obtain ⟨g3, rfl⟩ := ownI_got o3 (by omega)
    have x3 := o3.cellAt (j := 0) (by rw [HOL.out, ho]; omega)
    rw [HS2.out ho] at x3
    have HO0 := Lib.hid ho
    clear ho o3
    go_wp2_with (at_builtin; refine appL_plain (by rfl) _ _ (by rfl) (w3.heap.size + 1) 0 l c l _ f f f ⟨ad, off, none⟩ (by rfl) hE (by rfl) HNW.out (by omega) (fun i _ j _ => catS_zero f f i j) (by omega) (by simp) ?_; intro A5 c5 w5 ho5 hg5)
    clear x3
    have hu5 := OwnI.apart (A' := some ⟨w3.heap.size + 1, 0, none⟩) hU hg5 (own_ne (by decide) hU hE)
    have b6 : Below w.heap.size w w5 := bW.grown hg5 (by simp; omega) (fun k hk => by cases hk; show w.heap.size ≤ w3.heap.size + 1; omega)
    replace ho5 := ho5.base_ (show w.heap.size ≤ w3.heap.size + 1 by omega)
    replace hu5 := hu5.base (show w.heap.size ≤ w3.heap.size by omega)
    clear hE hU bW hg5 b5
    go_loopw [6, 8, 9] (fun nv ov lv wr => ∃ (L v' : Nat) (F : Nat → Nat → Int) (A1 A2 : Option Addr) (c1 c2 : Nat) (D : List Int), nv = .int .i64 v' ∧ ov = .slice A1 (l + 1 - L) c1 ∧ lv = .slice A2 L c2 ∧ L ≤ l ∧ v' < N ∧ Hid (inN N F L) ∧ Hid (canGo N F L v' = true) ∧ Hid (oneW N l f = D ++ walkL N L F v') ∧ Hid (D.length = l + 1 - L) ∧ OwnI wr w.heap.size (.slice A1 (l + 1 - L) c1) D ∧ OwnS 2 43 wr w.heap.size (.slice A2 L c2) L F ∧ Below w.heap.size w wr) (fun _ _ lv _ => lenOf lv)
    case atStart => exact ⟨l, v, f, _, _, 1, c5, [(v : Int)], rfl, by rw [show l + 1 - l = 1 by omega], rfl, Nat.le_refl _, hv, HIN, HG, Lib.hid (by rw [HW.out]; rfl), Lib.hid (by simp <;> omega), by rw [show l + 1 - l = 1 by omega]; exact hu5, ho5, b6⟩
    case round =>
      clear ho5 hu5 b6
      obtain ⟨L, v', F, A1, A2, c1, c2, D, rfl, rfl, rfl, hLl, hv', HI, HC, HD, HDL, oU, oL, hb⟩ := hrel
      have hbz := hb.size
      rcases (by omega : L = 0 ∨ 0 < L) with q0 | q0
      · subst q0
        have HD2 := Lib.hid (show oneW N l f = D by rw [HD.out]; simp [walkL])
        go_wp2
        go_ret2
        exact ⟨A1, c1, by rw [HD2.out, HDL.out, HT.out]; rfl, by rw [HD2.out, HDL.out]; exact oU, hb⟩
      have HLl := Lib.hid hLl
      obtain ⟨G, rfl⟩ := oL.some_ q0
      obtain ⟨t, k, hbst, ht, hk, hN3⟩ := best_next HI.out hv' q0 HC.out
      have HB := Lib.hid hbst
      have HN3 := Lib.hid hN3
      have q1 : (0 : Int) < (L : Int) := by omega
      clear hbst hN3
      go_wp2_with fail
      go_loopw [10, 11, 44] (fun bv av iv wx => ∃ j : Nat, j ≤ L ∧ iv = .int .i64 j ∧ bv = .int .i64 ((bestTo N F L v' j).1 : Nat) ∧ av = .int .i64 (bestTo N F L v' j).2 ∧ OwnI wx w.heap.size (.slice A1 (l + 1 - L) c1) D ∧ OwnS 2 43 wx w.heap.size (.slice (some ⟨G, 0, none⟩) L c2) L F ∧ Below w.heap.size w wx) (fun _ _ iv _ => L - (intOf iv).toNat)
      case atStart => exact ⟨0, by omega, rfl, rfl, rfl, oU, oL, hb⟩
      case round =>
        clear oU oL hb hbz
        obtain ⟨j, hj, rfl, rfl, rfl, oU, oL, hb⟩ := hrel
        have hbz := hb.size
        have hbd := best_bd N F L v' j
        by_cases hlt : j < L
        · have j0 : (0 : Int) ≤ (j : Int) := by omega
          have j3 : (j : Int) < (L : Int) := by omega
          have x0 : wr.cell? ⟨G, j * 2, none⟩ = some (.int .i64 (F j 0)) := oL.cellAt (j := 0) hlt (by omega)
          have x1 : wr.cell? ⟨G, j * 2 + 1, none⟩ = some (.int .i64 (F j 1)) := oL.cellAt (j := 1) hlt (by omega)
          have hin2 := HI.out j hlt
          have HO := Lib.hid (show other (F j) v' = if F j 0 = v' then F j 1 else if F j 1 = v' then F j 0 else -1 from rfl)
          have zG : G < wr.heap.size := oL.ge.2
          have hoA := (oL.alloc (.cells #[.int .i64 (F j 0), .int .i64 (F j 1)] 43))
          have huA := (oU.alloc (.cells #[.int .i64 (F j 0), .int .i64 (F j 1)] 43))
          have hbA := hb.alloc hbz (.cells #[.int .i64 (F j 0), .int .i64 (F j 1)] 43)
          obtain ⟨P, hP⟩ : ∃ P, P = F j 0 := ⟨_, rfl⟩
          obtain ⟨Q, hQ⟩ : ∃ Q, Q = F j 1 := ⟨_, rfl⟩
          rw [← hP] at x0 HO
          rw [← hQ] at x1 HO
          rw [← hP, ← hQ] at hoA huA hbA hin2
          have HBJ := Lib.hid (show True from trivial)
          have HS : Hid (∀ u : Nat, other (F j) v' = (u : Int) → (u : Int) < ((bestTo N F L v' j).1 : Int) → okAt N F L v' j = true → bestTo N F L v' (j + 1) = (u, (j : Int))) := Lib.hid fun u h1 h2 h3 => best_yes h3 h1 h2
          have HSN : Hid ((okAt N F L v' j = false ∨ ¬ other (F j) v' < ((bestTo N F L v' j).1 : Int)) → bestTo N F L v' (j + 1) = bestTo N F L v' j) := Lib.hid best_no
          obtain ⟨bb, hbb⟩ : ∃ q, q = (bestTo N F L v' j).1 := ⟨_, rfl⟩
          obtain ⟨ba, hba⟩ : ∃ q, q = (bestTo N F L v' j).2 := ⟨_, rfl⟩
          have HBB := Lib.hid (show bestTo N F L v' j = (bb, ba) by rw [hbb, hba])
          rw [← hbb, ← hba] at hbd
          rw [← hbb] at HS HSN
          rw [← hbb, ← hba]
          clear hP hQ hbb hba
          rcases (by omega : P = (v' : Int) ∨ (P ≠ (v' : Int) ∧ Q = (v' : Int)) ∨ (P ≠ (v' : Int) ∧ Q ≠ (v' : Int))) with e | ⟨e, e2⟩ | ⟨e, e2⟩
          · skip
            have HO2 := Lib.hid (show other (F j) v' = Q by rw [HO.out, if_pos e])
            subst e
            have p1 : ((v' : Int) == (v' : Int)) = true := beq_iff_eq.2 rfl
            rcases (by omega : ¬ Q < (bb : Int) ∨ Q < (bb : Int)) with r | r
            · have r0 : decide ((0 : Int) ≤ Q) = true := decide_eq_true (by omega)
              have r1 : decide (Q < (bb : Int)) = false := decide_eq_false r
              have r2 := Lib.hid r
              clear r
              have HE := Lib.hid (HSN.out (.inr (by rw [HO2.out]; exact r2.out)))
              go_wp2_with fail
              go_region
              clear x0 x1
              go_wp2
              go_roundw
              case rel => exact ⟨j + 1, by omega, by go_num, by rw [HE.out, HBB.out], by rw [HE.out, HBB.out], huA.drew, hoA.drew, hbA.drew⟩
              case measure => simp [intOf]; omega
            · have r0 : (0 : Int) ≤ Q := by omega
              obtain ⟨u, hu⟩ : ∃ u : Nat, Q = u := ⟨(Q).toNat, by omega⟩
              subst hu
              have HO3 := Lib.hid (show other (F j) v' = (u : Int) from HO2.out)
              have huN : u < N := by omega
              have r2 := Lib.hid r
              have hE : OwnS 2 43 ((wr.alloc (.cells #[.int .i64 (v' : Int), .int .i64 (u : Int)] 43)).drew.alloc (.cells #[] 43)) (wr.heap.size + 1) (.slice (some ⟨wr.heap.size + 1, 0, none⟩) 0 0) 0 F := by simpa using ownS_empty 2 43 (wr.alloc (.cells #[.int .i64 (v' : Int), .int .i64 (u : Int)] 43)).drew F
              have hoW := hoA.drew.alloc (.cells #[] 43)
              have huW := huA.drew.alloc (.cells #[] 43)
              have hbW := hbA.drew.alloc (show w.heap.size ≤ _ by simp; omega) (.cells #[] 43)
              have HN1 := Lib.hid (news_own (hoW.pre (show j ≤ L by omega)))
              have hLc := oL.le
              obtain ⟨AD, hAD, hAN⟩ := sub_addr (m := 2) (e := 43) (base := w.heap.size) (g := G) (n := L) (c := c2) (lo := j + 1) (f := F) (by decide) hLc
              have HAN := Lib.hid hAN
              have HNE : Hid (∀ k, blk (some (⟨G, 0, none⟩ : Addr)) = some k → blk (some (⟨wr.heap.size + 1, 0, none⟩ : Addr)) = some k → False) := Lib.hid fun k hk hk' => by
                have e1 : G = k := Option.some.inj hk
                have e2 : wr.heap.size + 1 = k := Option.some.inj hk'
                omega
              have HCR := Lib.hid (show ∀ i, i < L - 1 → ∀ b, b < 2 → catS F j (fun k => F (j + 1 + k)) i b = rem F j i b from fun i _ b _ => by rw [catS_rem])
              have HIR : Hid (∀ k, k < L - 1 → 0 ≤ rem F j k 0 ∧ rem F j k 0 < N ∧ 0 ≤ rem F j k 1 ∧ rem F j k 1 < N ∧ rem F j k 0 ≠ rem F j k 1) := Lib.hid (inN_rem HI.out hlt)
              have HWR := Lib.hid (show ∀ i, i < L - 1 → ∀ b, b < 2 → (Lit.int .i64 (rem F j i b)).wf = true from fun i hi b hb => WalkArith.wf_i64 (by
                have := HIR.out i hi
                rcases (by omega : b = 0 ∨ b = 1) with rfl | rfl <;> omega))
              have hic : j ≤ c2 := by omega
              have hwr : IntKind.i64.wrap ((j : Int) + 1) = (j : Int) + 1 := IntWalk.i64_in _ (by omega)
              have hp0 : (0 : Int) ≤ (j : Int) + 1 := by omega
              have hp1 : (j : Int) + 1 ≤ (L : Int) := by omega
              have hp2 : ((j : Int) + 1).toNat = j + 1 := by omega
              clear hAN hLc oL oU hb hbd
              go_wp2_with fail
              go_region_held3 (fun _ => True) (first | go_keep | trivial) (first | (refine appL_drawn (by rfl) (.tmp 70) (.tmp 73) (by rfl) (wr.heap.size + 1) 0 j c2 j _ F F F ⟨G, 0, none⟩ (by rfl) hE (by rfl) HN1.out (by omega) (fun i _ j _ => catS_zero F F i j) (by omega) (by simp) ?_; intro A7 c7 w7 ho7 hg7; have hL7 := OwnS.apart (A' := some ⟨wr.heap.size + 1, 0, none⟩) hoW hg7 HNE.out; have hU7 := OwnI.apart (A' := some ⟨wr.heap.size + 1, 0, none⟩) huW hg7 (own_ne (by decide) huW hE); have b7 := hbW.grown hg7 (by simp; omega) (fun k hk => by cases hk; show w.heap.size ≤ wr.heap.size + 1; omega)) | (refine appL_drawn (by rfl) (.tmp 74) (.tmp 78) (by rfl) (wr.heap.size + 1) j (L - (j + 1)) (c2 - (j + 1)) (L - 1) _ F (fun k => F (j + 1 + k)) (rem F j) AD (by rfl) ho7 (by rfl) (HAN.out w7 hL7) (by omega) HCR.out (by omega) (by have := hg7.size; simp at this; omega) ?_; intro A8 c8 w8 ho8 hg8; rw [ownBlock_blk] at hg8; have hL8 := OwnS.apart hL7 hg8 (fun k hk hk' => by have e1 : G = k := Option.some.inj hk; have := ho7.ge' k hk'; omega); have hU8 := OwnI.apart hU7 hg8 (own_ne (by decide) hU7 ho7); have b8 := b7.grown hg8 b7.size (fun k hk => by have := ho7.ge' k hk; omega)) | (go_at_call 33; ((with_reducible refine (impl_canGo N u A8 (L - 1) c8 (rem F j) _ _ (ho8.rowP HWR.out) (Nat.le_refl _) hN1 hN (by omega) HIR.out huN).mono ?_); rintro e w9 ⟨rfl, hb9⟩); have hL9 := hL8.keep hb9; have hU9 := hU8.keep hb9; have b9 := b8.trans (hb9.mono b8.size)))
              clear x0 x1 hAD
              obtain ⟨R, hR⟩ : ∃ R, R = canGo N (rem F j) (L - 1) u := ⟨_, rfl⟩
              rw [← hR]
              have HOK := Lib.hid (show okAt N F L v' j = R by rw [okAt_pos HO3.out, hR])
              clear hR
              rcases (Bool.eq_false_or_eq_true R).symm with z | z
              · have HE := Lib.hid (HSN.out (.inl (by rw [HOK.out, z])))
                subst z
                go_wp2
                go_roundw
                case rel => exact ⟨j + 1, by omega, by go_num, by rw [HE.out, HBB.out], by rw [HE.out, HBB.out], hU9, hL9, b9⟩
                case measure => simp [intOf]; omega
              · have HE := Lib.hid (HS.out u HO3.out r2.out (by rw [HOK.out, z]))
                subst z
                go_wp2
                go_roundw
                case rel => exact ⟨j + 1, by omega, by go_num, by rw [HE.out], by rw [HE.out], hU9, hL9, b9⟩
                case measure => simp [intOf]; omega
          · skip
            have p1 : (P == (v' : Int)) = false := beq_eq_false_iff_ne.2 e
            have HO2 := Lib.hid (show other (F j) v' = P by rw [HO.out, if_neg e, if_pos e2])
            have He := Lib.hid e
            clear e
            subst e2
            have p2 : ((v' : Int) == (v' : Int)) = true := beq_iff_eq.2 rfl
            rcases (by omega : ¬ P < (bb : Int) ∨ P < (bb : Int)) with r | r
            · have r0 : decide ((0 : Int) ≤ P) = true := decide_eq_true (by omega)
              have r1 : decide (P < (bb : Int)) = false := decide_eq_false r
              have r2 := Lib.hid r
              clear r
              have HE := Lib.hid (HSN.out (.inr (by rw [HO2.out]; exact r2.out)))
              go_wp2_with fail
              go_region
              clear x0 x1
              go_wp2
              go_roundw
              case rel => exact ⟨j + 1, by omega, by go_num, by rw [HE.out, HBB.out], by rw [HE.out, HBB.out], huA.drew, hoA.drew, hbA.drew⟩
              case measure => simp [intOf]; omega
            · have r0 : (0 : Int) ≤ P := by omega
              obtain ⟨u, hu⟩ : ∃ u : Nat, P = u := ⟨(P).toNat, by omega⟩
              subst hu
              have HO3 := Lib.hid (show other (F j) v' = (u : Int) from HO2.out)
              have huN : u < N := by omega
              have r2 := Lib.hid r
              have hE : OwnS 2 43 ((wr.alloc (.cells #[.int .i64 (u : Int), .int .i64 (v' : Int)] 43)).drew.alloc (.cells #[] 43)) (wr.heap.size + 1) (.slice (some ⟨wr.heap.size + 1, 0, none⟩) 0 0) 0 F := by simpa using ownS_empty 2 43 (wr.alloc (.cells #[.int .i64 (u : Int), .int .i64 (v' : Int)] 43)).drew F
              have hoW := hoA.drew.alloc (.cells #[] 43)
              have huW := huA.drew.alloc (.cells #[] 43)
              have hbW := hbA.drew.alloc (show w.heap.size ≤ _ by simp; omega) (.cells #[] 43)
              have HN1 := Lib.hid (news_own (hoW.pre (show j ≤ L by omega)))
              have hLc := oL.le
              obtain ⟨AD, hAD, hAN⟩ := sub_addr (m := 2) (e := 43) (base := w.heap.size) (g := G) (n := L) (c := c2) (lo := j + 1) (f := F) (by decide) hLc
              have HAN := Lib.hid hAN
              have HNE : Hid (∀ k, blk (some (⟨G, 0, none⟩ : Addr)) = some k → blk (some (⟨wr.heap.size + 1, 0, none⟩ : Addr)) = some k → False) := Lib.hid fun k hk hk' => by
                have e1 : G = k := Option.some.inj hk
                have e2 : wr.heap.size + 1 = k := Option.some.inj hk'
                omega
              have HCR := Lib.hid (show ∀ i, i < L - 1 → ∀ b, b < 2 → catS F j (fun k => F (j + 1 + k)) i b = rem F j i b from fun i _ b _ => by rw [catS_rem])
              have HIR : Hid (∀ k, k < L - 1 → 0 ≤ rem F j k 0 ∧ rem F j k 0 < N ∧ 0 ≤ rem F j k 1 ∧ rem F j k 1 < N ∧ rem F j k 0 ≠ rem F j k 1) := Lib.hid (inN_rem HI.out hlt)
              have HWR := Lib.hid (show ∀ i, i < L - 1 → ∀ b, b < 2 → (Lit.int .i64 (rem F j i b)).wf = true from fun i hi b hb => WalkArith.wf_i64 (by
                have := HIR.out i hi
                rcases (by omega : b = 0 ∨ b = 1) with rfl | rfl <;> omega))
              have hic : j ≤ c2 := by omega
              have hwr : IntKind.i64.wrap ((j : Int) + 1) = (j : Int) + 1 := IntWalk.i64_in _ (by omega)
              have hp0 : (0 : Int) ≤ (j : Int) + 1 := by omega
              have hp1 : (j : Int) + 1 ≤ (L : Int) := by omega
              have hp2 : ((j : Int) + 1).toNat = j + 1 := by omega
              clear hAN hLc oL oU hb hbd
              go_wp2_with fail
              go_region_held3 (fun _ => True) (first | go_keep | trivial) (first | (refine appL_drawn (by rfl) (.tmp 70) (.tmp 73) (by rfl) (wr.heap.size + 1) 0 j c2 j _ F F F ⟨G, 0, none⟩ (by rfl) hE (by rfl) HN1.out (by omega) (fun i _ j _ => catS_zero F F i j) (by omega) (by simp) ?_; intro A7 c7 w7 ho7 hg7; have hL7 := OwnS.apart (A' := some ⟨wr.heap.size + 1, 0, none⟩) hoW hg7 HNE.out; have hU7 := OwnI.apart (A' := some ⟨wr.heap.size + 1, 0, none⟩) huW hg7 (own_ne (by decide) huW hE); have b7 := hbW.grown hg7 (by simp; omega) (fun k hk => by cases hk; show w.heap.size ≤ wr.heap.size + 1; omega)) | (refine appL_drawn (by rfl) (.tmp 74) (.tmp 78) (by rfl) (wr.heap.size + 1) j (L - (j + 1)) (c2 - (j + 1)) (L - 1) _ F (fun k => F (j + 1 + k)) (rem F j) AD (by rfl) ho7 (by rfl) (HAN.out w7 hL7) (by omega) HCR.out (by omega) (by have := hg7.size; simp at this; omega) ?_; intro A8 c8 w8 ho8 hg8; rw [ownBlock_blk] at hg8; have hL8 := OwnS.apart hL7 hg8 (fun k hk hk' => by have e1 : G = k := Option.some.inj hk; have := ho7.ge' k hk'; omega); have hU8 := OwnI.apart hU7 hg8 (own_ne (by decide) hU7 ho7); have b8 := b7.grown hg8 b7.size (fun k hk => by have := ho7.ge' k hk; omega)) | (go_at_call 33; ((with_reducible refine (impl_canGo N u A8 (L - 1) c8 (rem F j) _ _ (ho8.rowP HWR.out) (Nat.le_refl _) hN1 hN (by omega) HIR.out huN).mono ?_); rintro e w9 ⟨rfl, hb9⟩); have hL9 := hL8.keep hb9; have hU9 := hU8.keep hb9; have b9 := b8.trans (hb9.mono b8.size)))
              clear x0 x1 hAD
              obtain ⟨R, hR⟩ : ∃ R, R = canGo N (rem F j) (L - 1) u := ⟨_, rfl⟩
              rw [← hR]
              have HOK := Lib.hid (show okAt N F L v' j = R by rw [okAt_pos HO3.out, hR])
              clear hR
              rcases (Bool.eq_false_or_eq_true R).symm with z | z
              · have HE := Lib.hid (HSN.out (.inl (by rw [HOK.out, z])))
                subst z
                go_wp2
                go_roundw
                case rel => exact ⟨j + 1, by omega, by go_num, by rw [HE.out, HBB.out], by rw [HE.out, HBB.out], hU9, hL9, b9⟩
                case measure => simp [intOf]; omega
              · have HE := Lib.hid (HS.out u HO3.out r2.out (by rw [HOK.out, z]))
                subst z
                go_wp2
                go_roundw
                case rel => exact ⟨j + 1, by omega, by go_num, by rw [HE.out], by rw [HE.out], hU9, hL9, b9⟩
                case measure => simp [intOf]; omega
          · skip
            have p1 : (P == (v' : Int)) = false := beq_eq_false_iff_ne.2 e
            have p2 : (Q == (v' : Int)) = false := beq_eq_false_iff_ne.2 e2
            have HO2 := Lib.hid (show other (F j) v' = -1 by rw [HO.out, if_neg e, if_neg e2])
            clear e e2
            have r0 : ¬ (0 : Int) ≤ -1 := by omega
            have HE := Lib.hid (HSN.out (.inl (okAt_neg HO2.out)))
            go_wp2_with fail
            go_region
            clear x0 x1
            go_wp2
            go_roundw
            case rel => exact ⟨j + 1, by omega, by go_num, by rw [HE.out, HBB.out], by rw [HE.out, HBB.out], huA.drew, hoA.drew, hbA.drew⟩
            case measure => simp [intOf]; omega
        · obtain rfl : j = L := by omega
          have j3 : ¬ (j : Int) < (j : Int) := by omega
          have zG := oL.ge
          have hoA := oL.alloc (.cells #[.int .i64 t] 3)
          have huA := oU.alloc (.cells #[.int .i64 t] 3)
          have hbA := hb.alloc hbz (.cells #[.int .i64 t] 3)
          have HNE := Lib.hid (own_ne (by decide) huA hoA)
          have hLc := oL.le
          obtain ⟨AD, hAD, hAN⟩ := sub_addr (m := 2) (e := 43) (base := w.heap.size) (g := G) (n := j) (c := c2) (lo := k + 1) (f := F) (by decide) hLc
          have HAN := Lib.hid hAN
          have HCR := Lib.hid (show ∀ i, i < j - 1 → ∀ b, b < 2 → catS F k (fun i => F (k + 1 + i)) i b = rem F k i b from fun i _ b _ => by rw [catS_rem])
          have hwr : IntKind.i64.wrap ((k : Int) + 1) = (k : Int) + 1 := IntWalk.i64_in _ (by omega)
          have hp0 : (0 : Int) ≤ (k : Int) + 1 := by omega
          have hp1 : (k : Int) + 1 ≤ (j : Int) := by omega
          have hp2 : ((k : Int) + 1).toNat = k + 1 := by omega
          have hp3 : (k : Int) ≤ (j : Int) := by omega
          have hp4 : (0 : Int) ≤ (k : Int) := by omega
          have hic : k ≤ c2 := by omega
          have HI2 := Lib.hid (inN_rem HI.out hk)
          have HC2 := Lib.hid (next_go HN3.out)
          have HD2 := Lib.hid (show oneW N l f = (D ++ [(t : Int)]) ++ walkL N (j - 1) (rem F k) t by rw [HD.out, walkL_next HB.out q0]; simp)
          have HDL2 := Lib.hid (show (D ++ [(t : Int)]).length = l + 1 - (j - 1) by rw [List.length_append, HDL.out]; simp; omega)
          rw [HB.out]
          clear hAN hLc hbd
          go_wp2_with (at_builtin; refine appI_grown (by rfl) _ _ (by rfl) w.heap.size (l + 1 - j) _ D (t : Int) wr.heap.size HDL.out (by rfl) huA (by rfl) (heap_alloc_new wr _) (by omega) (by simp; omega) ?_; intro A7 c7 w7 ho7 hg7; rw [ownBlock_blk] at hg7)
          have hL7 := OwnS.apart hoA hg7 (fun k hk hk' => HNE.out k hk' hk)
          have b7 := hbA.grown hg7 (by simp; omega) (fun k hk => (huA.ge' k hk).1)
          have z7 := b7.size
          clear hoA huA hbA hg7 oU oL hb
          go_region_held3 (fun _ => True) (first | go_keep | trivial) (first | (refine appL_drawn (by rfl) (.tmp 93) (.tmp 97) (by rfl) w.heap.size k (j - (k + 1)) (c2 - (k + 1)) (j - 1) _ F (fun i => F (k + 1 + i)) (rem F k) AD (by rfl) (OwnS.pre hL7.drew (by omega)) (by rfl) (HAN.out _ hL7.drew) (by omega) HCR.out (by omega) z7 ?_; intro A8 c8 w8 ho8 hg8; have hU8 := OwnI.apart (A' := some ⟨G, 0, none⟩) ho7.drew hg8 (own_ne (by decide) ho7 hL7); have b8 := b7.drew.grown hg8 z7 (fun q hq => by cases hq; exact zG.1)))
          go_wp2
          go_roundw
          case rel => exact ⟨j - 1, t, rem F k, A7, A8, c7, c8, D ++ [(t : Int)], rfl, by rw [show l + 1 - j + 1 = l + 1 - (j - 1) by omega], rfl, by omega, ht, HI2, HC2, HD2, HDL2, by rw [show l + 1 - (j - 1) = l + 1 - j + 1 by omega]; exact hU8, ho8, b8⟩
          case measure => simp [lenOf]; omega
end Go.Proofs.Ytkgabnhfjmldbaa
