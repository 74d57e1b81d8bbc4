/- Contract of the program's ReadBlock. -/
import Derived.Test.YtheafiaemcmjaaaDoorRb
import Derived.Test.YtheafiaemcmjaaaDoorShelf
namespace Go.Proofs.YtheafiaemcmjaaaDoor
open Go.ChangeShapes Go.WideShapes Go.ChangeAt Go.RowKit
theorem pcs_mem_len (c : UInt8) : ∀ (l : List UInt8) (q : List UInt8), q ∈ pcs c l → q.length ≤ l.length
  | [], q, h => by
    have e : q = [] := List.mem_singleton.1 h
    rw [e]; exact Nat.le_refl _
  | x :: l, q, h => by
    by_cases e : x = c
    · subst e
      rw [pcs_hit] at h
      rcases List.mem_cons.1 h with rfl | h
      · simp
      · have := pcs_mem_len x l q h; simp only [List.length_cons]; omega
    · obtain ⟨p, ps, e2⟩ := pcs_cons c l
      rw [pcs_miss e e2] at h
      rcases List.mem_cons.1 h with rfl | h
      · have := pcs_mem_len c l p (by rw [e2]; simp); simp only [List.length_cons]; omega
      · have := pcs_mem_len c l q (by rw [e2]; simp [h]); simp only [List.length_cons]; omega
/-- a block of other cells is not the row's own -/
theorem row_other {w w0 w' : World} {base m e n g : Nat} {v : Value} {f : Nat → Nat → Int} {cs : Array Value} {t : TypeId} (hg : w.grownBy w' v.ownBlock) (ho : OwnS m e w0 base v n f) (h0 : w0.heap[g]? = some (.cells cs t (0, 0))) (h : w.heap[g]? = some (.cells cs t (0, 0))) (ht : t ≠ e) : w'.heap[g]? = some (.cells cs t (0, 0)) := by
  refine (hg.block g (blk_lt h) (fun e1 => ?_)).trans h
  rcases ho.2 with ⟨hv, _⟩ | ⟨g', cap, cur, hv, _, hg', _⟩
  · rw [hv] at e1; cases e1
  · rw [hv] at e1
    have e2 : g = g' := Option.some.inj e1
    subst e2
    rw [h0] at hg'
    simp only [Option.some.injEq, Obj.cells.injEq] at hg'
    exact ht hg'.2.1
theorem bF_wf3 (l : List UInt8) : ∀ a, a < rbN l → ∀ j, j < 3 → (Lit.int .i64 (bF l a j)).wf = true := fun a _ j _ => bF_wf l a j
theorem rbN_bd (l : List UInt8) : rbN l ≤ 100 := by
  unfold rbN
  split
  · rename_i h
    have := (readB_n h).1
    omega
  · omega
set_option maxRecDepth 100000 in
set_option maxHeartbeats 8000000 in
theorem impl_readB (l : List UInt8) (m : Int) (w : World) (hl : l.length ≤ 1048576) (hm : w.cell? ⟨0, 0, none⟩ = some (.int .i64 m)) : Calls Tryd.prog 27 #[.string (strB l)] w (RbPost l w) := by
  obtain ⟨n, hn⟩ : ∃ n, n = l.length := ⟨_, rfl⟩
  have hs : (strB l).size = n := by rw [strB_size, hn]
  have HN := Lib.hid hn
  rw [← hn] at hl
  obtain ⟨C, hC⟩ : ∃ C, C = Lib.countB (strB l) ⟨#[59]⟩ := ⟨_, rfl⟩
  have hcnt : C + 1 = (pcs 59 l).length := by rw [hC]; exact count_pcs 59 l
  have hspl : Lib.splitB ⟨#[59]⟩ 0 C (strB l) = (pcs 59 l).map strB := by rw [hC]; exact splitB_pcs 59 l
  have hCn : C ≤ n := by
    have h1 := pcs_count 59 l
    have h2 := List.count_le_length (a := (59 : UInt8)) (l := l)
    omega
  obtain ⟨r, hr⟩ : ∃ r, r = C + 1 := ⟨_, rfl⟩
  obtain ⟨b, hb⟩ : ∃ b, b = w.heap.size := ⟨_, rfl⟩
  have b0 : 0 < b := by rw [hb]; exact World.block_lt_of_cell? w _ hm
  obtain ⟨FS, hFS⟩ : ∃ FS : Array Value, FS = (((pcs 59 l).map strB).map Value.string).toArray := ⟨_, rfl⟩
  have HFS := Lib.hid (show ∀ j q, (pcs 59 l)[j]? = some q → FS[j]? = some (Value.string (strB q)) by
    intro j q hj
    rw [hFS, List.getElem?_toArray, List.getElem?_map, List.getElem?_map, hj]
    exact rfl)
  have HRL := Lib.hid (show (pcs 59 l).length = r by rw [hr]; exact hcnt.symm)
  have HRS0 := Lib.hid (show (r : Int) = ((bS l : Nat) : Int) by unfold bS; rw [HRL.out])
  have HR0 := Lib.hid (show C + 1 = r from hr.symm)
  have hr1 : r ≤ n + 1 := by omega
  have hm1 : (w.alloc (.cells #[.int .i64 0, .slice none 0 0] 46)).cell? ⟨0, 0, none⟩ = some (.int .i64 m) := (((Below.refl w.heap.size w).alloc (Nat.le_refl _) (.cells #[.int .i64 0, .slice none 0 0] 46)).cell (p := ⟨0, 0, none⟩) (by show 0 < w.heap.size; omega)).trans hm
  obtain ⟨w2, hw2⟩ : ∃ w2, w2 = ((w.alloc (.cells #[.int .i64 0, .slice none 0 0] 46)).alloc (.cells FS 9)).alloc (.cells #[.int .i64 r, .slice none 0 0] 46) := ⟨_, rfl⟩
  have bz : Below b w w2 := by rw [hw2, hb]; exact (((Below.refl w.heap.size w).alloc (Nat.le_refl _) _).alloc (by simp) _).alloc (by simp; omega) _
  have G0 : w2.heap[b]? = some (.cells #[.int .i64 0, .slice none 0 0] 46 (0, 0)) := by rw [hw2, hb]; exact blk_alloc (blk_alloc (heap_alloc_new w _) _) _
  have GF : w2.heap[b + 1]? = some (.cells FS 9 (0, 0)) := by
    have h1 := heap_alloc_new (w.alloc (.cells #[.int .i64 0, .slice none 0 0] 46)) (.cells FS 9)
    rw [show (w.alloc (.cells #[.int .i64 0, .slice none 0 0] 46)).heap.size = b + 1 by rw [hb]; simp] at h1
    rw [hw2]
    exact blk_alloc h1 _
  have GO : w2.heap[b + 2]? = some (.cells #[.int .i64 r, .slice none 0 0] 46 (0, 0)) := by
    have h1 := heap_alloc_new ((w.alloc (.cells #[.int .i64 0, .slice none 0 0] 46)).alloc (.cells FS 9)) (.cells #[.int .i64 r, .slice none 0 0] 46)
    rw [show ((w.alloc (.cells #[.int .i64 0, .slice none 0 0] 46)).alloc (.cells FS 9)).heap.size = b + 2 by rw [hb]; simp] at h1
    rw [hw2]
    exact h1
  have z0 : b + 3 ≤ w2.heap.size := by rw [hw2, hb]; simp
  have HB := Lib.hid hb
  have HSZ := Lib.hid (show (w.alloc (.cells #[.int .i64 0, .slice none 0 0] 46)).heap.size = b + 1 by rw [hb]; simp)
  have HC := Lib.hid hC.symm
  have HSP := Lib.hid hspl
  have HF := Lib.hid hFS
  have HM0 := Lib.hid hm
  have HW2 := Lib.hid hw2
  have HWF : Hid (∀ {c : Nat}, ∀ a, a < c → ∀ j, j < 3 → (Lit.int .i64 (bF l a j)).wf = true) := Lib.hid fun a _ j _ => bF_wf l a j
  clear hn hC hcnt hspl hr hb hFS hm hw2
  go_enter Tryd.func27, Tryd.ntmps27
  go_wp2_with fail
  refine (Tryd.strings_Split (strB l) ⟨#[59]⟩ m _ (by rw [hs]; omega) hm1 (by decide)).mono ?_
  rintro e w' ⟨rfl, rfl⟩
  rw [HC.out, HSP.out, ← HF.out, HSZ.out, HR0.out]
  clear hm1
  have r0 : (0 : Int) < (r : Int) := by have := HR0.out; omega
  go_wp2_with fail
  rw [← HW2.out, ← HB.out]
  go_loopw [19] (fun kv wr => ∃ (i c : Nat) (A2 : Option Addr) (c2 : Nat), i ≤ r ∧ kv = .int .i64 i ∧ Hid (c = offs l i) ∧ Hid (∀ t, t < c → ∀ p, (pieces l)[t]? = some p → readOk p = true) ∧ wr.heap[b]? = some (.cells #[.int .i64 0, .slice none 0 0] 46 (0, 0)) ∧ wr.heap[b + 1]? = some (.cells FS 9 (0, 0)) ∧ wr.heap[b + 2]? = some (.cells #[.int .i64 r, .slice A2 c c2] 46 (0, 0)) ∧ OwnS 3 23 wr (b + 3) (.slice A2 c c2) c (bF l) ∧ Below b w wr ∧ b + 3 ≤ wr.heap.size) (fun kv _ => r - (intOf kv).toNat)
  case atStart => exact ⟨0, 0, none, 0, by omega, rfl, Lib.hid rfl, Lib.hid (fun t ht => by omega), G0, GF, GO, ownS_nil _ _ _ _ _, bz, z0⟩
  case round =>
    clear G0 GF GO bz z0
    obtain ⟨i, c, A2, c2, hi, rfl, HCO, HQ, G0, GF, GO, hown, hb, hz⟩ := hrel
    by_cases hlt : i < r
    · have k0 : (0 : Int) ≤ (i : Int) := by omega
      have k3 : (i : Int) < (r : Int) := by omega
      obtain ⟨q, hq⟩ : ∃ q, (pcs 59 l)[i]? = some q := ⟨_, List.getElem?_eq_getElem (by have := HRL.out; omega)⟩
      have f1 : wr.cell? ⟨b + 1, i, none⟩ = some (.string (strB q)) := by rw [blk_cell GF i]; exact HFS.out i q hq
      have HQI := Lib.hid hq
      have hql : q.length ≤ n := by have := pcs_mem_len 59 l q (List.mem_of_getElem? hq); have := HN.out; omega
      have hsq : (strB q).size ≤ n := by rw [strB_size]; exact hql
      obtain ⟨C2, hC2⟩ : ∃ C, C = Lib.countB (strB q) ⟨#[44]⟩ := ⟨_, rfl⟩
      have hcnt2 : C2 + 1 = (pcs 44 q).length := by rw [hC2]; exact count_pcs 44 q
      have hspl2 : Lib.splitB ⟨#[44]⟩ 0 C2 (strB q) = (pcs 44 q).map strB := by rw [hC2]; exact splitB_pcs 44 q
      have hCn2 : C2 ≤ n := by
        have h1 := pcs_count 44 q
        have h2 := List.count_le_length (a := (44 : UInt8)) (l := q)
        omega
      obtain ⟨s, hsr⟩ : ∃ s, s = C2 + 1 := ⟨_, rfl⟩
      obtain ⟨F2, hF2⟩ : ∃ F2 : Array Value, F2 = (((pcs 44 q).map strB).map Value.string).toArray := ⟨_, rfl⟩
      have HFS2 := Lib.hid (show ∀ j p, (pcs 44 q)[j]? = some p → F2[j]? = some (Value.string (strB p)) by
        intro j p hj
        rw [hF2, List.getElem?_toArray, List.getElem?_map, List.getElem?_map, hj]
        exact rfl)
      have HSL := Lib.hid (show (pcs 44 q).length = s by rw [hsr]; exact hcnt2.symm)
      have HS0 := Lib.hid (show C2 + 1 = s from hsr.symm)
      have hs1 : s ≤ n + 1 := by omega
      have HC2 := Lib.hid hC2.symm
      have HSP2 := Lib.hid hspl2
      have HF2 := Lib.hid hF2
      have hmr : wr.cell? ⟨0, 0, none⟩ = some (.int .i64 m) := (hb.cell (p := ⟨0, 0, none⟩) (by show 0 < b; exact b0)).trans HM0.out
      have HOF := Lib.hid (show c + s = offs l (i + 1) by rw [HCO.out, offs_step hq, HSL.out])
      have HOL := Lib.hid (show offs l (i + 1) ≤ n + 1 from by
        have h1 := offs_le l (i + 1)
        have h2 := pieces_len l
        have h3 := HN.out
        unfold bN at h1
        omega)
      have hcs : c + s ≤ n + 1 := by rw [HOF.out]; exact HOL.out
      clear hq hql hC2 hcnt2 hspl2 hsr hF2
      go_wp2_with fail
      refine (Tryd.strings_Split (strB q) ⟨#[44]⟩ m wr (by omega) hmr (by decide)).mono ?_
      rintro e w' ⟨rfl, rfl⟩
      rw [HC2.out, HSP2.out, ← HF2.out, HS0.out]
      obtain ⟨g, hg⟩ : ∃ g, g = wr.heap.size := ⟨_, rfl⟩
      obtain ⟨w3, hw3⟩ : ∃ w3, w3 = wr.alloc (.cells F2 9) := ⟨_, rfl⟩
      have G03 : w3.heap[b]? = some (.cells #[.int .i64 0, .slice none 0 0] 46 (0, 0)) := by rw [hw3]; exact blk_alloc G0 _
      have GF3 : w3.heap[b + 1]? = some (.cells FS 9 (0, 0)) := by rw [hw3]; exact blk_alloc GF _
      have GO3 : w3.heap[b + 2]? = some (.cells #[.int .i64 r, .slice A2 c c2] 46 (0, 0)) := by rw [hw3]; exact blk_alloc GO _
      have GG3 : w3.heap[g]? = some (.cells F2 9 (0, 0)) := by rw [hw3, hg]; exact heap_alloc_new wr _
      have ho3 : OwnS 3 23 w3 (b + 3) (.slice A2 c c2) c (bF l) := by rw [hw3]; exact hown.alloc _
      have hb3 : Below b w w3 := by rw [hw3]; exact hb.alloc (by omega) _
      have hz3 : b + 3 ≤ w3.heap.size := by rw [hw3]; simp; omega
      have s0 : (0 : Int) < (s : Int) := by have := HS0.out; omega
      rw [← hw3, ← hg]
      have hgb : b + 3 ≤ g := by omega
      clear hw3 hg G0 GF GO hown hb hz f1 hmr
      go_wp2_with fail
      go_loopw [26] (fun jv wx => ∃ (j e : Nat) (A3 : Option Addr) (c3 : Nat), j ≤ s ∧ jv = .int .i64 j ∧ e ≤ n + 1 ∧ Hid (e = c + j) ∧ Hid (∀ t, t < e → ∀ p, (pieces l)[t]? = some p → readOk p = true) ∧ wx.heap[b]? = some (.cells #[.int .i64 0, .slice none 0 0] 46 (0, 0)) ∧ wx.heap[b + 1]? = some (.cells FS 9 (0, 0)) ∧ wx.heap[b + 2]? = some (.cells #[.int .i64 r, .slice A3 e c3] 46 (0, 0)) ∧ wx.heap[g]? = some (.cells F2 9 (0, 0)) ∧ OwnS 3 23 wx (b + 3) (.slice A3 e c3) e (bF l) ∧ Below b w wx ∧ b + 3 ≤ wx.heap.size) (fun jv _ => s - (intOf jv).toNat)
      case atStart => exact ⟨0, c, A2, c2, by omega, rfl, by omega, Lib.hid rfl, HQ, G03, GF3, GO3, GG3, ho3, hb3, hz3⟩
      case round =>
        clear G03 GF3 GO3 GG3 ho3 hb3 hz3
        obtain ⟨j, e, A3, c3, hj, rfl, he, HEJ, HQ2, G0, GF, GO, GG, hown, hb, hz⟩ := hrel
        by_cases hlj : j < s
        · have j0 : (0 : Int) ≤ (j : Int) := by omega
          have j3 : (j : Int) < (s : Int) := by omega
          obtain ⟨P, hp⟩ : ∃ p, (pcs 44 q)[j]? = some p := ⟨_, List.getElem?_eq_getElem (by have := HSL.out; omega)⟩
          have f2 : wr.cell? ⟨g, j, none⟩ = some (.string (strB P)) := by rw [blk_cell GG j]; exact HFS2.out j P hp
          have HP := Lib.hid (show (pieces l)[e]? = some P by rw [HEJ.out, HCO.out]; exact offs_at HQI.out hp)
          have hes : e + 1 ≤ n + 1 := by have := HEJ.out; omega
          clear hp
          go_wp2_with fail
          clear f2
          refine (impl_readCell P wr).mono ?_
          rintro x w3 ⟨rfl, hb3⟩
          have z3 := hb3.size
          have G03 := blk_below G0 hb3 (by omega)
          have GF3 := blk_below GF hb3 (by omega)
          have GO3 := blk_below GO hb3 (by omega)
          have GG3 := blk_below GG hb3 (blk_lt GG)
          have ho3 := hown.keep hb3
          have hb4 := hb.trans (hb3.mono (by omega))
          have HQV := Lib.hid (bF_at HP.out)
          obtain ⟨v0, hv0⟩ : ∃ v, v = readC P 0 := ⟨_, rfl⟩
          obtain ⟨v1, hv1⟩ : ∃ v, v = readC P 1 := ⟨_, rfl⟩
          obtain ⟨v2, hv2⟩ : ∃ v, v = readC P 2 := ⟨_, rfl⟩
          rw [← hv0, ← hv1, ← hv2]
          have HV := Lib.hid (show ∀ j, j < 3 → bF l e j = tri v0 v1 v2 j from fun j hj => by
            rw [HQV.out, hv0, hv1, hv2]
            match j, hj with
            | 0, _ => rfl
            | 1, _ => rfl
            | 2, _ => rfl)
          clear hv0 hv1 hv2 hb3 G0 GF GO GG hown hb
          have CV : Hid True := Lib.hid trivial
          have G04 := blk_alloc G03 (.cells #[.int .i64 v0, .int .i64 v1, .int .i64 v2] 23)
          have GF4 := blk_alloc GF3 (.cells #[.int .i64 v0, .int .i64 v1, .int .i64 v2] 23)
          have GO4 := blk_alloc GO3 (.cells #[.int .i64 v0, .int .i64 v1, .int .i64 v2] 23)
          have GG4 := blk_alloc GG3 (.cells #[.int .i64 v0, .int .i64 v1, .int .i64 v2] 23)
          have ho4 := ho3.alloc (.cells #[.int .i64 v0, .int .i64 v1, .int .i64 v2] 23)
          have hb5 := hb4.alloc (show b ≤ w3.heap.size by omega) (.cells #[.int .i64 v0, .int .i64 v1, .int .i64 v2] 23)
          rcases (Bool.eq_false_or_eq_true (readOk P)).symm with hO | hO
          · have HR := Lib.hid (show readB l = false from readB_piece HP.out hO)
            rw [hO]
            have bne3 : b ≠ w3.heap.size := by omega
            have blt3 : b < w3.heap.size := by omega
            obtain ⟨u1, hu1⟩ : ∃ u, u = w3.setCell ⟨b, 0, none⟩ (.int .i64 0) := ⟨_, rfl⟩
            have Gu1 : u1.heap[b]? = some (.cells #[.int .i64 0, .slice none 0 0] 46 (0, 0)) := by rw [hu1]; simpa using heap_setCell_same w3 b 0 _ _ (.int .i64 0) G03
            obtain ⟨u2, hu2⟩ : ∃ u, u = u1.setCell ⟨b, 1, none⟩ (.slice none 0 0) := ⟨_, rfl⟩
            have Gu2 : u2.heap[b]? = some (.cells #[.int .i64 0, .slice none 0 0] 46 (0, 0)) := by rw [hu2]; simpa using heap_setCell_same u1 b 1 _ _ (.slice none 0 0) Gu1
            obtain ⟨u3, hu3⟩ : ∃ u, u = u2.alloc (.cells #[.int .i64 v0, .int .i64 v1, .int .i64 v2] 23) := ⟨_, rfl⟩
            have Gu3 : u3.heap[b]? = some (.cells #[.int .i64 0, .slice none 0 0] 46 (0, 0)) := by rw [hu3]; exact blk_alloc Gu2 _
            have y0 : w3.cell? ⟨b, 0, none⟩ = some (.int .i64 0) := by rw [blk_cell G03 0]; rfl
            have y1 : w3.cell? ⟨b, 1, none⟩ = some (.slice none 0 0) := by rw [blk_cell G03 1]; rfl
            have q0 : w3.frozen? ⟨b, 0, none⟩ = false := blk_frozen G03
            have q1 : w3.frozen? ⟨b, 1, none⟩ = false := blk_frozen G03
            have yy0 : u3.cell? ⟨b, 0, none⟩ = some (.int .i64 0) := by rw [blk_cell Gu3 0]; rfl
            have yy1 : u3.cell? ⟨b, 1, none⟩ = some (.slice none 0 0) := by rw [blk_cell Gu3 1]; rfl
            have hb6 : Below b w u3 := by rw [hu3, hu2, hu1]; exact ((hb4.setCell (p := ⟨b, 0, none⟩) (Nat.le_refl _) _).setCell (p := ⟨b, 1, none⟩) (Nat.le_refl _) _).alloc (by simp [World.setCell]; omega) _
            clear G03 GF3 GO3 GG3 G04 GF4 GO4 GG4 ho3 ho4 hb5 hO hb4 Gu1 Gu2 Gu3
            go_wp2
            rw [← hu1, ← hu2, ← hu3]
            exact bodyPost_ret (v := .tuple #[.agg #[.int .i64 0, .slice none 0 0], .bool false]) (by simp [results, Tryd.results27, go_sem, yy0, yy1]) rfl (RbPost.no HR.out (by rw [← HB.out]; exact hb6))
          · have HOK := Lib.hid hO
            rw [hO]
            have x1' : w3.cell? ⟨b + 2, 1, none⟩ = some (.slice A3 e c3) := by rw [blk_cell GO3 1]; rfl
            have bne3 : b + 2 ≠ w3.heap.size := by omega
            have blt3 : b + 2 < w3.heap.size := by omega
            have c80 : e ≤ 1048576 := by omega
            have hnew4 := (by simp : (w3.alloc (.cells #[.int .i64 v0, .int .i64 v1, .int .i64 v2] 23)).heap.size = w3.heap.size + 1) ▸ heap_alloc_new (w3.alloc (.cells #[.int .i64 v0, .int .i64 v1, .int .i64 v2] 23)) (.cells #[.int .i64 v0, .int .i64 v1, .int .i64 v2] 23)
            have HNW := Lib.hid hnew4
            clear hnew4 hO G03 GF3 GO3 GG3 ho3
            go_wp2_with (at_builtin; refine appS_grown Tryd.underlying44 info_cellR rfl (by decide) (by decide) rfl _ _ rfl (b + 3) e _ (bF l) (tri v0 v1 v2) (w3.heap.size + 1) rfl (ho4.alloc _) rfl #[.int .i64 v0, .int .i64 v1, .int .i64 v2] rfl HNW.out c80 (by simp; omega) ?_; intro A6 c6 w6 ho6 hg6; have G16 := row_farR hg6 ho4 (blk_alloc GO4 _) (by omega); have t0 : w6.cell? ⟨b + 2, 1, none⟩ = some (.slice A3 e c3) := (by rw [blk_cell G16 1]; rfl); have t1 : w6.frozen? ⟨b + 2, 1, none⟩ = false := blk_frozen G16)
            have G06 := row_farR hg6 ho4 (blk_alloc G04 _) (by omega)
            have GF6 := row_farR hg6 ho4 (blk_alloc GF4 _) (by omega)
            have GG6 := row_other hg6 ho4 GG4 (blk_alloc GG4 _) (by decide)
            have G07 := blk_set G06 (p := ⟨b + 2, 1, none⟩) (show b ≠ b + 2 by omega) (.slice A6 (e + 1) c6)
            have GF7 := blk_set GF6 (p := ⟨b + 2, 1, none⟩) (show b + 1 ≠ b + 2 by omega) (.slice A6 (e + 1) c6)
            have GG7 := blk_set GG6 (p := ⟨b + 2, 1, none⟩) (show g ≠ b + 2 by omega) (.slice A6 (e + 1) c6)
            have G17 : (w6.setCell ⟨b + 2, 1, none⟩ (.slice A6 (e + 1) c6)).heap[b + 2]? = some (.cells #[.int .i64 r, .slice A6 (e + 1) c6] 46 (0, 0)) := by simpa using heap_setCell_same w6 (b + 2) 1 _ _ (.slice A6 (e + 1) c6) G16
            have ho7 := (ho6.congr (f' := bF l) (by decide) (fun a ha j hj => by
              unfold updS
              split
              · rename_i e; subst e; exact (HV.out j hj).symm
              · rfl)).setOther (p := ⟨b + 2, 1, none⟩) (x := .slice A6 (e + 1) c6) (fun q hq => by have := (World.ownsRow.lt ho6 q hq).1; show b + 2 ≠ q; omega)
            have hb7 := ((hb5.alloc (by simp; omega) (.cells #[.int .i64 v0, .int .i64 v1, .int .i64 v2] 23)).grown hg6 (by simp; omega) (fun q hq => by have := (World.ownsRow.lt ho4 q hq).1; omega)).setCell (p := ⟨b + 2, 1, none⟩) (show b ≤ b + 2 by omega) (.slice A6 (e + 1) c6)
            have z9 : b + 3 ≤ (w6.setCell ⟨b + 2, 1, none⟩ (.slice A6 (e + 1) c6)).heap.size := by have := hg6.size; simp [World.setCell] at this ⊢; omega
            have HQ3 := Lib.hid (show ∀ t, t < e + 1 → ∀ p, (pieces l)[t]? = some p → readOk p = true from fun t ht p hp => by
              rcases (by omega : t < e ∨ t = e) with q | rfl
              · exact HQ2.out t q p hp
              · rw [HP.out] at hp; cases hp; exact HOK.out)
            have HEJ2 := Lib.hid (show e + 1 = c + (j + 1) by have := HEJ.out; omega)
            clear G04 GF4 GO4 GG4 G06 GF6 GG6 G16 ho4 ho6 hb4 hb5 hg6 t0 t1 x1'
            go_wp2
            go_roundw
            case rel => exact ⟨j + 1, e + 1, A6, c6, by omega, by go_num, hes, HEJ2, HQ3, G07, GF7, G17, GG7, ho7, hb7, z9⟩
            case measure => simp [intOf]; omega
        · have hjs : j = s := by omega
          have j3 : ¬ (j : Int) < (s : Int) := by omega
          have HEO := Lib.hid (show e = offs l (i + 1) by rw [HEJ.out, hjs]; exact HOF.out)
          clear hjs GG
          go_wp2
          go_roundw
          case rel => exact ⟨i + 1, e, A3, c3, by omega, by go_num, HEO, HQ2, G0, GF, GO, hown, hb, hz⟩
          case measure => simp [intOf]; omega
    · have k3 : ¬ (i : Int) < (r : Int) := by omega
      have HRC := Lib.hid (show c = bN l by rw [HCO.out, show i = (pcs 59 l).length by have := HRL.out; omega]; exact offs_end l)
      have HRS := HRS0
      have HA := Lib.hid (show okAll l = true from readB_all fun t ht p hp => HQ.out t (by rw [HRC.out]; exact ht) p hp)
      have x0 : wr.cell? ⟨b + 2, 0, none⟩ = some (.int .i64 r) := by rw [blk_cell GO 0]; rfl
      have x1 : wr.cell? ⟨b + 2, 1, none⟩ = some (.slice A2 c c2) := by rw [blk_cell GO 1]; rfl
      clear GF
      go_wp2_with fail
      clear x0 x1
      refine (impl_blockOk r A2 c c2 (bF l) _ wr (hown.rowP HWF.out) (Nat.le_refl _)).mono ?_
      rintro e w5 ⟨rfl, hb5⟩
      have z5 := hb5.size
      have G05 := blk_below G0 hb5 (by omega)
      have G15 := blk_below GO hb5 (by omega)
      have ho5 := hown.keep hb5
      have hbz := hb.trans (hb5.mono (by omega))
      have x0 : w5.cell? ⟨b + 2, 0, none⟩ = some (.int .i64 r) := by rw [blk_cell G15 0]; rfl
      have x1 : w5.cell? ⟨b + 2, 1, none⟩ = some (.slice A2 c c2) := by rw [blk_cell G15 1]; rfl
      have y0 : w5.cell? ⟨b, 0, none⟩ = some (.int .i64 0) := by rw [blk_cell G05 0]; rfl
      have y1 : w5.cell? ⟨b, 1, none⟩ = some (.slice none 0 0) := by rw [blk_cell G05 1]; rfl
      have q0 : w5.frozen? ⟨b, 0, none⟩ = false := blk_frozen G05
      have q1 : w5.frozen? ⟨b, 1, none⟩ = false := blk_frozen G05
      rcases (Bool.eq_false_or_eq_true (blockOk r c (bF l))).symm with hO | hO
      · have HR := Lib.hid (show readB l = false from readB_no (by rw [← HRS.out, ← HRC.out]; exact hO))
        have hb6 := (hbz.setCell (p := ⟨b, 0, none⟩) (Nat.le_refl _) (.int .i64 0)).setCell (p := ⟨b, 1, none⟩) (Nat.le_refl _) (.slice none 0 0)
        rw [hO]
        clear G0 GO hown hb hb5 G05 G15 ho5 hbz hO x0 x1
        go_wp2
        exact bodyPost_ret (v := .tuple #[.agg #[.int .i64 0, .slice none 0 0], .bool false]) (by simp [results, Tryd.results27, go_sem, y0, y1, q0, q1]) rfl (RbPost.no HR.out (by rw [← HB.out]; exact hb6))
      · have HO := Lib.hid hO
        rw [hO]
        clear G0 GO hown hb hb5 hO
        go_wp2_with fail
        refine (impl_blockTx r A2 c c2 (bF l) _ w5 (ho5.rowP HWF.out) (Nat.le_refl _)).mono ?_
        rintro e w6 ⟨rfl, hb7⟩
        have z7 := hb7.size
        have G06 := blk_below G05 hb7 (by omega)
        have G16 := blk_below G15 hb7 (by omega)
        have ho6 := ho5.keep hb7
        have hbz6 := hbz.trans (hb7.mono (by omega))
        have x0 : w6.cell? ⟨b + 2, 0, none⟩ = some (.int .i64 r) := by rw [blk_cell G16 0]; rfl
        have x1 : w6.cell? ⟨b + 2, 1, none⟩ = some (.slice A2 c c2) := by rw [blk_cell G16 1]; rfl
        have y0 : w6.cell? ⟨b, 0, none⟩ = some (.int .i64 0) := by rw [blk_cell G06 0]; rfl
        have y1 : w6.cell? ⟨b, 1, none⟩ = some (.slice none 0 0) := by rw [blk_cell G06 1]; rfl
        have q0 : w6.frozen? ⟨b, 0, none⟩ = false := blk_frozen G06
        have q1 : w6.frozen? ⟨b, 1, none⟩ = false := blk_frozen G06
        obtain ⟨T, hT⟩ : ∃ T, T = blockTx r c (bF l) := ⟨_, rfl⟩
        rw [← hT]
        rcases (Bool.eq_false_or_eq_true (T == l)).symm with hE | hE
        · have HR := Lib.hid (show readB l = false from readB_ne (by rw [← HRS.out, ← HRC.out, ← hT]; exact beq_eq_false_iff_ne.1 hE))
          have t1 : ((strB T).toList == (strB l).toList) = false := by rw [strB_beq]; exact hE
          have t2 : ((strB T).toList != (strB l).toList) = true := by simp only [bne, t1, Bool.not_false]
          have hb6 := (hbz6.setCell (p := ⟨b, 0, none⟩) (Nat.le_refl _) (.int .i64 0)).setCell (p := ⟨b, 1, none⟩) (Nat.le_refl _) (.slice none 0 0)
          clear G05 G15 G06 G16 ho5 ho6 hbz hbz6 hb7 hT hE x0 x1
          go_wp2
          exact bodyPost_ret (v := .tuple #[.agg #[.int .i64 0, .slice none 0 0], .bool false]) (by simp [results, Tryd.results27, go_sem, y0, y1, q0, q1]) rfl (RbPost.no HR.out (by rw [← HB.out]; exact hb6))
        · have HR := Lib.hid (show readB l = true from readB_of HA.out (by rw [← HRS.out, ← HRC.out]; exact HO.out) (by rw [← HRS.out, ← HRC.out, ← hT]; exact beq_iff_eq.1 hE))
          have t1 : ((strB T).toList == (strB l).toList) = true := by rw [strB_beq]; exact hE
          have t2 : ((strB T).toList != (strB l).toList) = false := by simp only [bne, t1, Bool.not_true]
          have hb6 := (hbz6.setCell (p := ⟨b, 0, none⟩) (Nat.le_refl _) (.int .i64 r)).setCell (p := ⟨b, 1, none⟩) (Nat.le_refl _) (.slice A2 c c2)
          have hne : ∀ (u : World) (j : Nat) (x : Value), OwnS 3 23 u (b + 3) (.slice A2 c c2) c (bF l) → OwnS 3 23 (u.setCell ⟨b, j, none⟩ x) (b + 3) (.slice A2 c c2) c (bF l) := fun u j x h => h.setOther fun q hq => by have := (World.ownsRow.lt h q hq).1; show b ≠ q; omega
          have ho7 := (hne _ 1 (.slice A2 c c2) (hne _ 0 (.int .i64 r) ho6)).base_ (show b ≤ b + 3 by omega)
          clear G05 G15 G06 G16 ho5 ho6 hbz hbz6 hb7 hT hE hne
          go_wp2
          exact bodyPost_ret (v := .tuple #[.agg #[.int .i64 r, .slice A2 c c2], .bool true]) (by simp [results, Tryd.results27, go_sem, y0, y1, q0, q1]) rfl (RbPost.yes HR.out HRS.out HRC.out (by rw [← HB.out]; exact ho7) (by rw [← HB.out]; exact hb6))
end Go.Proofs.YtheafiaemcmjaaaDoor
