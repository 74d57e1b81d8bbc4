/- Contract of the program's ReadQuilt. -/
import Derived.Test.YtheafiaemcmjaaaDoorRq
namespace Go.Proofs.YtheafiaemcmjaaaDoor
open Go.ChangeShapes Go.WideShapes Go.ChangeAt Go.RowKit
set_option maxRecDepth 100000 in
set_option maxHeartbeats 4000000 in
theorem impl_readQ (l : List UInt8) (m : Int) (w : World) (hl : l.length ≤ 1048576) (hm : w.cell? ⟨0, 0, none⟩ = some (.int .i64 m)) : Calls Tryd.prog 23 #[.string (strB l)] w (RqPost l w) := by
  obtain ⟨p, ps, hps⟩ := pcs_cons 32 l
  obtain ⟨n, hn⟩ : ∃ n, n = l.length := ⟨_, rfl⟩
  have hs : (strB l).size = n := by rw [strB_size, hn]
  have HN := Lib.hid hn
  rw [← hn] at hl
  have HPS := Lib.hid hps
  obtain ⟨M, hM⟩ : ∃ M, M = ps.length := ⟨_, rfl⟩
  have HM := Lib.hid hM
  have hcnt : Lib.countB (strB l) ⟨#[32]⟩ = M := by have := count_pcs 32 l; rw [hps] at this; simp at this; omega
  have hspl : (Lib.splitB ⟨#[32]⟩ 0 M (strB l)) = (p :: ps).map strB := by rw [← hcnt, splitB_pcs, hps]
  obtain ⟨b, hb⟩ : ∃ b, b = w.heap.size := ⟨_, rfl⟩
  have b0 : 0 < b := by rw [hb]; exact World.block_lt_of_cell? w _ hm
  obtain ⟨FS, hFS⟩ : ∃ FS : Array Value, FS = (((p :: ps).map strB).map Value.string).toArray := ⟨_, rfl⟩
  have HFS := Lib.hid (show ∀ j q, (p :: ps)[j]? = some q → FS[j]? = some (Value.string (strB q)) by
    intro j q hj
    rw [hFS, List.getElem?_toArray, List.getElem?_map, List.getElem?_map, hj]
    exact rfl)
  have bz : Below b w ((w.alloc (.cells #[.int .i64 0, .int .i64 0, .slice none 0 0] 35)).alloc (.cells FS 9)) := by rw [hb]; exact ((Below.refl w.heap.size w).alloc (Nat.le_refl _) _).alloc (by simp) _
  have G0 : ((w.alloc (.cells #[.int .i64 0, .int .i64 0, .slice none 0 0] 35)).alloc (.cells FS 9)).heap[b]? = some (.cells #[.int .i64 0, .int .i64 0, .slice none 0 0] 35 (0, 0)) := by rw [hb]; exact blk_alloc (heap_alloc_new w _) _
  have GF : ((w.alloc (.cells #[.int .i64 0, .int .i64 0, .slice none 0 0] 35)).alloc (.cells FS 9)).heap[b + 1]? = some (.cells FS 9 (0, 0)) := by
    have h1 := heap_alloc_new (w.alloc (.cells #[.int .i64 0, .int .i64 0, .slice none 0 0] 35)) (.cells FS 9)
    rw [show (w.alloc (.cells #[.int .i64 0, .int .i64 0, .slice none 0 0] 35)).heap.size = b + 1 by rw [hb]; simp] at h1
    exact h1
  have z0 : ((w.alloc (.cells #[.int .i64 0, .int .i64 0, .slice none 0 0] 35)).alloc (.cells FS 9)).heap.size = b + 2 := by rw [hb]; simp
  have HB := Lib.hid hb
  have HSZ := Lib.hid (show (w.alloc (.cells #[.int .i64 0, .int .i64 0, .slice none 0 0] 35)).heap.size = b + 1 by rw [hb]; simp)
  have HC := Lib.hid hcnt
  have HSP := Lib.hid hspl
  have HF := Lib.hid hFS
  have hm1 : (w.alloc (.cells #[.int .i64 0, .int .i64 0, .slice none 0 0] 35)).cell? ⟨0, 0, none⟩ = some (.int .i64 m) := (((Below.refl w.heap.size w).alloc (Nat.le_refl _) (.cells #[.int .i64 0, .int .i64 0, .slice none 0 0] 35)).cell (p := ⟨0, 0, none⟩) (by show 0 < w.heap.size; omega)).trans hm
  have Mn : M ≤ n := by
    have h1 := congrArg List.length (pcs_head hps)
    have h2 : ∀ ps : List (List UInt8), ps.length ≤ (glue 32 ps).length := by
      intro ps
      induction ps with
      | nil => simp
      | cons q qs ih => simp only [glue, List.length_append, List.length_cons]; omega
    have h3 := h2 ps
    rw [List.length_append] at h1
    omega
  clear hn hM hcnt hspl hb hFS hm hps
  go_enter Tryd.func23, Tryd.ntmps23
  go_wp2_with fail
  refine (Tryd.strings_Split (strB l) ⟨#[32]⟩ m _ (by rw [hs]; omega) hm1 (by decide)).mono ?_
  rintro e w' ⟨rfl, rfl⟩
  rw [HC.out, HSP.out, ← HF.out, HSZ.out]
  obtain ⟨w2, hw2⟩ : ∃ w2, w2 = (w.alloc (.cells #[.int .i64 0, .int .i64 0, .slice none 0 0] 35)).alloc (.cells FS 9) := ⟨_, rfl⟩
  rw [← hw2] at bz G0 GF z0
  rw [← hw2, ← HB.out]
  clear hw2 hm1
  have z0a : b + 2 ≤ w2.heap.size := by omega
  have f0 : w2.cell? ⟨b + 1, 0, none⟩ = some (.string (strB p)) := by rw [blk_cell GF 0]; exact HFS.out 0 p rfl
  have M0 : (0 : Int) < ((M + 1 : Nat) : Int) := by omega
  have M1 : 0 < M + 1 := by omega
  obtain ⟨P, hP⟩ : ∃ P, P = p.length := ⟨_, rfl⟩
  have hsp : (strB p).size = P := by rw [strB_size, hP]
  have y0 : w2.cell? ⟨b, 0, none⟩ = some (.int .i64 0) := by rw [blk_cell G0 0]; rfl
  have y1 : w2.cell? ⟨b, 1, none⟩ = some (.int .i64 0) := by rw [blk_cell G0 1]; rfl
  have y2 : w2.cell? ⟨b, 2, none⟩ = some (.slice none 0 0) := by rw [blk_cell G0 2]; rfl
  have q0 : w2.frozen? ⟨b, 0, none⟩ = false := blk_frozen G0
  have q1 : w2.frozen? ⟨b, 1, none⟩ = false := blk_frozen G0
  have q2 : w2.frozen? ⟨b, 2, none⟩ = false := blk_frozen G0
  have hrej := ((bz.setCell (p := ⟨b, 0, none⟩) (Nat.le_refl _) (.int .i64 0)).setCell (p := ⟨b, 1, none⟩) (Nat.le_refl _) (.int .i64 0)).setCell (p := ⟨b, 2, none⟩) (Nat.le_refl _) (.slice none 0 0)
  rcases (Bool.eq_false_or_eq_true ((P : Int) == 4)).symm with h4 | h4
  · have h4' : ((P : Int) != 4) = true := by simp only [bne, h4, Bool.not_false]
    have HR := Lib.hid (show readQ l = false from bad_head HPS.out (by have := beq_eq_false_iff_ne.1 h4; omega))
    clear G0 GF bz z0 hP
    go_wp2
    exact bodyPost_ret (v := .tuple #[.agg #[.int .i64 0, .int .i64 0, .slice none 0 0], .bool false]) (by simp [results, Tryd.results23, go_sem, y0, y1, y2, q0, q1, q2]) rfl (RqPost.no HR.out (by rw [← HB.out]; exact hrej))
  have h4' : ((P : Int) != 4) = false := by simp only [bne, h4, Bool.not_true]
  have HP := Lib.hid (show p.length = 4 by have := beq_iff_eq.1 h4; omega)
  clear hP
  rcases (by omega : 36 < M ∨ M ≤ 36) with h36 | h36
  · have h37 : (37 : Int) < ((M + 1 : Nat) : Int) := by omega
    have h37' : 37 < M + 1 := by omega
    have HR := Lib.hid (show readQ l = false from bad_many HPS.out (by have := HM.out; omega))
    clear G0 GF bz z0
    go_wp2
    exact bodyPost_ret (v := .tuple #[.agg #[.int .i64 0, .int .i64 0, .slice none 0 0], .bool false]) (by simp [results, Tryd.results23, go_sem, y0, y1, y2, q0, q1, q2]) rfl (RqPost.no HR.out (by rw [← HB.out]; exact hrej))
  have h37 : ¬ (37 : Int) < ((M + 1 : Nat) : Int) := by omega
  have h37' : ¬ 37 < M + 1 := by omega
  have n4 : 4 ≤ n := by
    have h1 := congrArg List.length (pcs_head HPS.out)
    rw [List.length_append, HP.out, ← HN.out] at h1
    omega
  have i0 : 0 < n := by omega
  have i2 : (2 : Int) < (n : Int) := by omega
  obtain ⟨b0', hb0⟩ : ∃ b, b = byteI l 0 := ⟨_, rfl⟩
  obtain ⟨b2', hb2⟩ : ∃ b, b = byteI l 2 := ⟨_, rfl⟩
  have e0 : (((strB l)[0]'(by rw [hs]; omega)).toNat : Int) = b0' := by rw [hb0]; exact strB_at _
  have e2 : (((strB l)[2]'(by rw [hs]; omega)).toNat : Int) = b2' := by rw [hb2]; exact strB_at _
  have bd0 := byteI_bd l 0
  have bd2 := byteI_bd l 2
  rw [← hb0] at bd0
  rw [← hb2] at bd2
  obtain ⟨cw, hcw⟩ : ∃ c, c = b0' - 48 := ⟨_, rfl⟩
  obtain ⟨ch, hch⟩ : ∃ c, c = b2' - 48 := ⟨_, rfl⟩
  have u0 : IntKind.i64.wrap b0' = b0' := IntWalk.i64_in _ (by omega)
  have u1 : IntKind.i64.wrap (b0' - 48) = cw := by rw [IntWalk.i64_in _ (by omega)]; omega
  have u2 : IntKind.i64.wrap b2' = b2' := IntWalk.i64_in _ (by omega)
  have u3 : IntKind.i64.wrap (b2' - 48) = ch := by rw [IntWalk.i64_in _ (by omega)]; omega
  have HW := Lib.hid (show cW l = cw by unfold cW; rw [hcw, hb0])
  have HH := Lib.hid (show cH l = ch by unfold cH; rw [hch, hb2])
  clear hb0 hb2 hcw hch bd0 bd2 hrej
  have h38 : ¬ (37 : Int) < (M : Int) + 1 := by omega
  have hlne : l ≠ [] := fun e => by have := HN.out; rw [e] at this; simp at this; omega
  have HNE := Lib.hid hlne
  clear hlne
  have W3z : b + 3 ≤ (w2.alloc (.cells #[.int .i64 cw, .int .i64 ch, .slice none 0 0] 35)).drew.heap.size := by simp; omega
  have G03 := blk_alloc G0 (.cells #[.int .i64 cw, .int .i64 ch, .slice none 0 0] 35)
  have GF3 := blk_alloc GF (.cells #[.int .i64 cw, .int .i64 ch, .slice none 0 0] 35)
  have GO3 : (w2.alloc (.cells #[.int .i64 cw, .int .i64 ch, .slice none 0 0] 35)).heap[b + 2]? = some (.cells #[.int .i64 cw, .int .i64 ch, .slice none 0 0] 35 (0, 0)) := by
    have h1 := heap_alloc_new w2 (.cells #[.int .i64 cw, .int .i64 ch, .slice none 0 0] 35)
    rw [z0] at h1
    exact h1
  have bz3 := (bz.alloc (show b ≤ w2.heap.size by omega) (.cells #[.int .i64 cw, .int .i64 ch, .slice none 0 0] 35)).drew
  obtain ⟨w3, hw3⟩ : ∃ w3, w3 = (w2.alloc (.cells #[.int .i64 cw, .int .i64 ch, .slice none 0 0] 35)).drew := ⟨_, rfl⟩
  have G04 : w3.heap[b]? = some (.cells #[.int .i64 0, .int .i64 0, .slice none 0 0] 35 (0, 0)) := by rw [hw3]; exact G03
  have GF4 : w3.heap[b + 1]? = some (.cells FS 9 (0, 0)) := by rw [hw3]; exact GF3
  have GO4 : w3.heap[b + 2]? = some (.cells #[.int .i64 cw, .int .i64 ch, .slice none 0 0] 35 (0, 0)) := by rw [hw3]; exact GO3
  rw [← hw3] at bz3 W3z
  have HW3 := Lib.hid hw3
  clear G03 GF3 GO3 hw3 G0 GF bz
  rcases (by omega : M = 0 ∨ 1 ≤ M) with hM0 | hM0
  · subst hM0
    have hps0 : ps = [] := List.eq_nil_of_length_eq_zero HM.out.symm
    have HNC := Lib.hid (show cN l = 0 from by
      rw [(pieces_n HPS.out HP.out (fun q hq => by rw [hps0] at hq; cases hq)).2]
      exact HM.out.symm)
    have st : w3.heap[b]? = some (.cells #[.int .i64 0, .int .i64 0, .slice none 0 0] 35 (0, 0)) ∧ w3.heap[b + 2]? = some (.cells #[.int .i64 cw, .int .i64 ch, .slice none 0 0] 35 (0, 0)) ∧ Below b w w3 ∧ b + 3 ≤ w3.heap.size := ⟨G04, GO4, bz3, W3z⟩
    clear G04 GF4 GO4 bz3 W3z hps0 h37 h37' h38 Mn
    go_wp2_with fail
    go_region
    clear u0 u1 u2 u3 e0 e2 y0 y1 y2 q0 q1 q2 f0
    go_wp2_with fail
    rw [← HW3.out]
    go_loopw [35] (fun kv wr => kv = .int .i64 0 ∧ wr.heap[b]? = some (.cells #[.int .i64 0, .int .i64 0, .slice none 0 0] 35 (0, 0)) ∧ wr.heap[b + 2]? = some (.cells #[.int .i64 cw, .int .i64 ch, .slice none 0 0] 35 (0, 0)) ∧ Below b w wr ∧ b + 3 ≤ wr.heap.size) (fun kv _ => 0)
    case atStart => exact ⟨rfl, st.1, st.2.1, st.2.2.1, st.2.2.2⟩
    case round =>
      clear st
      obtain ⟨rfl, G0, GO, hb, hz⟩ := hrel
      obtain ⟨A2, hA2⟩ : ∃ A2 : Option Addr, A2 = none := ⟨_, rfl⟩
      obtain ⟨c2, hc2⟩ : ∃ c2 : Nat, c2 = 0 := ⟨_, rfl⟩
      have hown : OwnS 2 64 wr (b + 3) (.slice A2 0 c2) 0 (cF l) := by rw [hA2, hc2]; exact ownS_nil _ _ _ _ _
      rw [← hA2] at GO
      rw [show (Value.slice A2 0 0) = .slice A2 0 c2 by rw [hc2]] at GO
      clear hA2 hc2
      have HWF := Lib.hid (show ∀ a, a < 0 → ∀ j, j < 2 → (Lit.int .i64 (cF l a j)).wf = true from fun a _ j _ => WalkArith.wf_i64 (by
        unfold cF
        have h1 := byteI_bd l (5 + 3 * a)
        have h2 := byteI_bd l (6 + 3 * a)
        split <;> omega))
      have x0 : wr.cell? ⟨b + 2, 0, none⟩ = some (.int .i64 cw) := by rw [blk_cell GO 0]; rfl
      have x1 : wr.cell? ⟨b + 2, 1, none⟩ = some (.int .i64 ch) := by rw [blk_cell GO 1]; rfl
      have x2 : wr.cell? ⟨b + 2, 2, none⟩ = some (.slice A2 0 c2) := by rw [blk_cell GO 2]; rfl
      go_wp2_with fail
      refine (impl_quiltTx cw ch A2 0 c2 (cF l) _ wr (hown.rowP HWF.out) (Nat.le_refl _)).mono ?_
      rintro e w6 ⟨rfl, hb7⟩
      have z7 := hb7.size
      have G06 := blk_below G0 hb7 (by omega)
      have G16 := blk_below GO hb7 (by omega)
      have ho6 := hown.keep hb7
      have hbz6 := hb.trans (hb7.mono (by omega))
      have x0 : w6.cell? ⟨b + 2, 0, none⟩ = some (.int .i64 cw) := by rw [blk_cell G16 0]; rfl
      have x1 : w6.cell? ⟨b + 2, 1, none⟩ = some (.int .i64 ch) := by rw [blk_cell G16 1]; rfl
      have x2 : w6.cell? ⟨b + 2, 2, none⟩ = some (.slice A2 0 c2) := by rw [blk_cell G16 2]; rfl
      have y0 : w6.cell? ⟨b, 0, none⟩ = some (.int .i64 0) := by rw [blk_cell G06 0]; rfl
      have y1 : w6.cell? ⟨b, 1, none⟩ = some (.int .i64 0) := by rw [blk_cell G06 1]; rfl
      have y2 : w6.cell? ⟨b, 2, none⟩ = some (.slice none 0 0) := by rw [blk_cell G06 2]; rfl
      have q0 : w6.frozen? ⟨b, 0, none⟩ = false := blk_frozen G06
      have q1 : w6.frozen? ⟨b, 1, none⟩ = false := blk_frozen G06
      have q2 : w6.frozen? ⟨b, 2, none⟩ = false := blk_frozen G06
      obtain ⟨T, hT⟩ : ∃ T, T = quiltTx cw ch 0 (cF l) := ⟨_, rfl⟩
      rw [← hT]
      rcases (Bool.eq_false_or_eq_true (T == l)).symm with hE | hE
      · have HR := Lib.hid (show readQ l = false from readQ_f HNE.out (by rw [HW.out, HH.out, HNC.out, ← hT]; exact beq_eq_false_iff_ne.1 hE))
        have t1 : ((strB T).toList == (strB l).toList) = false := by rw [strB_beq]; exact hE
        have t2 : ((strB T).toList != (strB l).toList) = true := by simp only [bne, t1, Bool.not_false]
        have hb6 := ((hbz6.setCell (p := ⟨b, 0, none⟩) (Nat.le_refl _) (.int .i64 0)).setCell (p := ⟨b, 1, none⟩) (Nat.le_refl _) (.int .i64 0)).setCell (p := ⟨b, 2, none⟩) (Nat.le_refl _) (.slice none 0 0)
        clear G0 GO G06 G16 hown ho6 hb hbz6 hb7 hT hE x0 x1 x2
        go_wp2
        exact bodyPost_ret (v := .tuple #[.agg #[.int .i64 0, .int .i64 0, .slice none 0 0], .bool false]) (by simp [results, Tryd.results23, go_sem, y0, y1, y2, q0, q1, q2]) rfl (RqPost.no HR.out (by rw [← HB.out]; exact hb6))
      · have HR := Lib.hid (show readQ l = true from readQ_of HNE.out (by rw [HW.out, HH.out, HNC.out, ← hT]; exact beq_iff_eq.1 hE))
        have t1 : ((strB T).toList == (strB l).toList) = true := by rw [strB_beq]; exact hE
        have t2 : ((strB T).toList != (strB l).toList) = false := by simp only [bne, t1, Bool.not_true]
        have hb6 := ((hbz6.setCell (p := ⟨b, 0, none⟩) (Nat.le_refl _) (.int .i64 cw)).setCell (p := ⟨b, 1, none⟩) (Nat.le_refl _) (.int .i64 ch)).setCell (p := ⟨b, 2, none⟩) (Nat.le_refl _) (.slice A2 0 c2)
        have hne : ∀ (u : World) (j : Nat) (x : Value), OwnS 2 64 u (b + 3) (.slice A2 0 c2) 0 (cF l) → OwnS 2 64 (u.setCell ⟨b, j, none⟩ x) (b + 3) (.slice A2 0 c2) 0 (cF l) := fun u j x h => h.setOther fun q hq => by have := (World.ownsRow.lt h q hq).1; show b ≠ q; omega
        have ho7 := (hne _ 2 (.slice A2 0 c2) (hne _ 1 (.int .i64 ch) (hne _ 0 (.int .i64 cw) ho6))).base_ (show b ≤ b + 3 by omega)
        clear G0 GO G06 G16 hown ho6 hb hbz6 hb7 hT hE hne
        go_wp2
        exact bodyPost_ret (v := .tuple #[.agg #[.int .i64 cw, .int .i64 ch, .slice A2 0 c2], .bool true]) (by simp [results, Tryd.results23, go_sem, y0, y1, y2, q0, q1, q2]) rfl (by rw [← HW.out, ← HH.out]; exact RqPost.yes HR.out HNC.out.symm (by rw [← HB.out, HW.out, HH.out]; exact ho7) (by rw [← HB.out, HW.out, HH.out]; exact hb6))
  have m1 : 0 < M := by omega
  have m2 : (0 : Int) < (M : Int) := by omega
  have m3 : M ≠ 0 := by omega
  have m4 : (1 : Int) ≤ (M : Int) := by omega
  go_wp2_with fail
  go_region
  clear u0 u1 u2 u3 e0 e2 y0 y1 y2 q0 q1 q2 f0
  go_wp2_with fail
  rw [← HW3.out]
  go_loopw [35] (fun kv wr => ∃ (k : Nat) (A2 : Option Addr) (c2 : Nat), k ≤ M ∧ kv = .int .i64 k ∧ Hid (∀ j, j < k → ∀ q, ps[j]? = some q → q.length = 2) ∧ wr.heap[b]? = some (.cells #[.int .i64 0, .int .i64 0, .slice none 0 0] 35 (0, 0)) ∧ wr.heap[b + 1]? = some (.cells FS 9 (0, 0)) ∧ wr.heap[b + 2]? = some (.cells #[.int .i64 cw, .int .i64 ch, .slice A2 k c2] 35 (0, 0)) ∧ OwnS 2 64 wr (b + 3) (.slice A2 k c2) k (cF l) ∧ Below b w wr ∧ b + 3 ≤ wr.heap.size) (fun kv _ => M - (intOf kv).toNat)
  case atStart => exact ⟨0, none, 0, by omega, rfl, Lib.hid (fun j hj => absurd hj (by omega)), G04, GF4, GO4, ownS_nil _ _ _ _ _, bz3, W3z⟩
  case round =>
    clear G04 GF4 GO4 bz3 W3z
    obtain ⟨k, A2, c2, hk, rfl, HQ, G0, GF, GO, hown, hb, hz⟩ := hrel
    by_cases hlt : k < M
    · have k0 : (0 : Int) ≤ (k : Int) := by omega
      have k3 : (k : Int) < (M : Int) := by omega
      obtain ⟨q, hq⟩ : ∃ q, ps[k]? = some q := ⟨_, List.getElem?_eq_getElem (by have := HM.out; omega)⟩
      have f1 : wr.cell? ⟨b + 1, 1 + k, none⟩ = some (.string (strB q)) := by rw [blk_cell GF (1 + k)]; exact HFS.out (1 + k) q (by rw [Nat.add_comm]; simpa using hq)
      have HQK := Lib.hid hq
      obtain ⟨Q, hQ⟩ : ∃ Q, Q = q.length := ⟨_, rfl⟩
      have hsq : (strB q).size = Q := by rw [strB_size, hQ]
      clear hq
      rcases (by omega : Q ≠ 2 ∨ Q = 2) with h2 | h2
      · have t2 : ((Q : Int) == 2) = false := beq_eq_false_iff_ne.2 (by omega)
        have t3 : ((Q : Int) != 2) = true := by simp only [bne, t2, Bool.not_false]
        have HR := Lib.hid (show readQ l = false from bad_piece HPS.out HQK.out (by omega))
        have y0 : wr.cell? ⟨b, 0, none⟩ = some (.int .i64 0) := by rw [blk_cell G0 0]; rfl
        have y1 : wr.cell? ⟨b, 1, none⟩ = some (.int .i64 0) := by rw [blk_cell G0 1]; rfl
        have y2 : wr.cell? ⟨b, 2, none⟩ = some (.slice none 0 0) := by rw [blk_cell G0 2]; rfl
        have q0 : wr.frozen? ⟨b, 0, none⟩ = false := blk_frozen G0
        have q1 : wr.frozen? ⟨b, 1, none⟩ = false := blk_frozen G0
        have q2 : wr.frozen? ⟨b, 2, none⟩ = false := blk_frozen G0
        have hb6 := ((hb.setCell (p := ⟨b, 0, none⟩) (Nat.le_refl _) (.int .i64 0)).setCell (p := ⟨b, 1, none⟩) (Nat.le_refl _) (.int .i64 0)).setCell (p := ⟨b, 2, none⟩) (Nat.le_refl _) (.slice none 0 0)
        clear G0 GF GO hown hb hQ h2
        go_wp2
        exact bodyPost_ret (v := .tuple #[.agg #[.int .i64 0, .int .i64 0, .slice none 0 0], .bool false]) (by simp [results, Tryd.results23, go_sem, y0, y1, y2, q0, q1, q2]) rfl (RqPost.no HR.out (by rw [← HB.out]; exact hb6))
      subst h2
      have t2 : ((2 : Int) == 2) = true := rfl
      have t3 : ((2 : Int) != 2) = false := rfl
      have hpc := piece_at2 HPS.out HP.out HQ.out HQK.out hQ.symm
      have HQ2 := Lib.hid (show ∀ j, j < k + 1 → ∀ q, ps[j]? = some q → q.length = 2 by
        intro j hj q' hq'
        rcases (by omega : j < k ∨ j = k) with h | rfl
        · exact HQ.out j h q' hq'
        · have := HQK.out
          rw [hq'] at this
          cases this
          exact hQ.symm)
      obtain ⟨p0, hp0⟩ : ∃ b, b = byteI q 0 := ⟨_, rfl⟩
      obtain ⟨p1, hp1⟩ : ∃ b, b = byteI q 1 := ⟨_, rfl⟩
      have e0 : (((strB q)[0]'(by rw [hsq]; omega)).toNat : Int) = p0 := by rw [hp0]; exact strB_at _
      have e1 : (((strB q)[1]'(by rw [hsq]; omega)).toNat : Int) = p1 := by rw [hp1]; exact strB_at _
      have bd0 := byteI_bd q 0
      have bd1 := byteI_bd q 1
      rw [← hp0] at bd0
      rw [← hp1] at bd1
      obtain ⟨s0, hs0⟩ : ∃ c, c = p0 - 48 := ⟨_, rfl⟩
      obtain ⟨s1, hs1⟩ : ∃ c, c = p1 - 97 := ⟨_, rfl⟩
      have u0 : IntKind.i64.wrap p0 = p0 := IntWalk.i64_in _ (by omega)
      have u1 : IntKind.i64.wrap (p0 - 48) = s0 := by rw [IntWalk.i64_in _ (by omega)]; omega
      have u2 : IntKind.i64.wrap p1 = p1 := IntWalk.i64_in _ (by omega)
      have u3 : IntKind.i64.wrap (p1 - 97) = s1 := by rw [IntWalk.i64_in _ (by omega)]; omega
      have HQC := Lib.hid (show ∀ j, j < 2 → cF l k j = pair2 s0 s1 j by
        intro j hj
        rcases (by omega : j = 0 ∨ j = 1) with rfl | rfl
        · show byteI l (5 + 3 * k) - 48 = s0
          rw [hs0, hp0, hpc.1]
        · show byteI l (6 + 3 * k) - 97 = s1
          rw [hs1, hp1, hpc.2])
      have o1 : wr.cell? ⟨b + 2, 2, none⟩ = some (.slice A2 k c2) := by rw [blk_cell GO 2]; rfl
      have o2 : wr.frozen? ⟨b + 2, 2, none⟩ = false := blk_frozen GO
      have zb : b + 2 < wr.heap.size := by omega
      have zb2 : b + 2 ≠ wr.heap.size := by omega
      clear hp0 hp1 hs0 hs1 bd0 bd1 hQ hpc
      go_wp2_with fail
      go_region_law (refine appP_drawn (by rfl) _ _ (by rfl) (b + 3) k _ (cF l) (pair2 s0 s1) wr.heap.size (by rfl) (OwnS.drew (hown.alloc _)) (by rfl) (by exact heap_alloc_new wr _) (by omega) (by simp; omega) ?_; intro A4 c4 w4 ho4 hg4; have G14 := row_farq hg4 hown (blk_alloc (w := wr) GO _); have t0 : w4.cell? ⟨b + 2, 2, none⟩ = some (.slice A2 k c2) := (by rw [blk_cell G14 2]; rfl); have t1 : w4.frozen? ⟨b + 2, 2, none⟩ = false := blk_frozen G14)
      all_goals
        have G04 := row_farq hg4 hown (blk_alloc (w := wr) G0 _) (by omega)
        have GF4 := row_farq hg4 hown (blk_alloc (w := wr) GF _) (by omega)
        have G05 := blk_set G04 (p := ⟨b + 2, 2, none⟩) (show b ≠ b + 2 by omega) (.slice A4 (k + 1) c4)
        have GF5 := blk_set GF4 (p := ⟨b + 2, 2, none⟩) (show b + 1 ≠ b + 2 by omega) (.slice A4 (k + 1) c4)
        have G15 : (w4.setCell ⟨b + 2, 2, none⟩ (.slice A4 (k + 1) c4)).heap[b + 2]? = some (.cells #[.int .i64 cw, .int .i64 ch, .slice A4 (k + 1) c4] 35 (0, 0)) := by simpa using heap_setCell_same w4 (b + 2) 2 _ _ (.slice A4 (k + 1) c4) G14
        have ho5 := (ho4.congr (f' := cF l) (by decide) (fun a ha j hj => by
          unfold updS
          split
          · rename_i e; subst e; exact (HQC.out j hj).symm
          · rfl)).setOther (p := ⟨b + 2, 2, none⟩) (x := .slice A4 (k + 1) c4) (fun q hq => by have := (World.ownsRow.lt ho4 q hq).1; show b + 2 ≠ q; omega)
        have hb6 := (((hb.alloc (show b ≤ wr.heap.size by omega) (.cells #[.int .i64 s0, .int .i64 s1] 64)).drew).grown hg4 (by simp; omega) (fun q hq => by have := (World.ownsRow.lt hown q hq).1; omega)).setCell (p := ⟨b + 2, 2, none⟩) (show b ≤ b + 2 by omega) (.slice A4 (k + 1) c4)
        have z9 : b + 3 ≤ (w4.setCell ⟨b + 2, 2, none⟩ (.slice A4 (k + 1) c4)).heap.size := by have := hg4.size; simp [World.setCell] at this ⊢; omega
        clear G0 GF GO G14 G04 GF4 hown ho4 hb hg4 t0 t1 o1 o2 e0 e1 u0 u1 u2 u3 f1
        go_wp2
        go_roundw
        case rel => exact ⟨k + 1, A4, c4, by omega, by go_num, HQ2, G05, GF5, G15, ho5, hb6, z9⟩
        case measure => simp [intOf]; omega
    · obtain rfl : k = M := by omega
      have k3 : ¬ (k : Int) < (k : Int) := by omega
      have HNC := Lib.hid (show cN l = k from by
        rw [(pieces_n HPS.out HP.out (fun q hq => by
          obtain ⟨j, hj, e⟩ := List.mem_iff_getElem.1 hq
          exact HQ.out j (by have := HM.out; omega) q (by rw [List.getElem?_eq_getElem hj, e]))).2]
        exact HM.out.symm)
      have HWF := Lib.hid (show ∀ a, a < k → ∀ j, j < 2 → (Lit.int .i64 (cF l a j)).wf = true from fun a _ j _ => WalkArith.wf_i64 (by
        unfold cF
        have h1 := byteI_bd l (5 + 3 * a)
        have h2 := byteI_bd l (6 + 3 * a)
        split <;> omega))
      have x0 : wr.cell? ⟨b + 2, 0, none⟩ = some (.int .i64 cw) := by rw [blk_cell GO 0]; rfl
      have x1 : wr.cell? ⟨b + 2, 1, none⟩ = some (.int .i64 ch) := by rw [blk_cell GO 1]; rfl
      have x2 : wr.cell? ⟨b + 2, 2, none⟩ = some (.slice A2 k c2) := by rw [blk_cell GO 2]; rfl
      go_wp2_with fail
      refine (impl_quiltTx cw ch A2 k c2 (cF l) _ wr (hown.rowP HWF.out) (Nat.le_refl _)).mono ?_
      rintro e w6 ⟨rfl, hb7⟩
      have z7 := hb7.size
      have G06 := blk_below G0 hb7 (by omega)
      have G16 := blk_below GO hb7 (by omega)
      have ho6 := hown.keep hb7
      have hbz6 := hb.trans (hb7.mono (by omega))
      have x0 : w6.cell? ⟨b + 2, 0, none⟩ = some (.int .i64 cw) := by rw [blk_cell G16 0]; rfl
      have x1 : w6.cell? ⟨b + 2, 1, none⟩ = some (.int .i64 ch) := by rw [blk_cell G16 1]; rfl
      have x2 : w6.cell? ⟨b + 2, 2, none⟩ = some (.slice A2 k c2) := by rw [blk_cell G16 2]; rfl
      have y0 : w6.cell? ⟨b, 0, none⟩ = some (.int .i64 0) := by rw [blk_cell G06 0]; rfl
      have y1 : w6.cell? ⟨b, 1, none⟩ = some (.int .i64 0) := by rw [blk_cell G06 1]; rfl
      have y2 : w6.cell? ⟨b, 2, none⟩ = some (.slice none 0 0) := by rw [blk_cell G06 2]; rfl
      have q0 : w6.frozen? ⟨b, 0, none⟩ = false := blk_frozen G06
      have q1 : w6.frozen? ⟨b, 1, none⟩ = false := blk_frozen G06
      have q2 : w6.frozen? ⟨b, 2, none⟩ = false := blk_frozen G06
      obtain ⟨T, hT⟩ : ∃ T, T = quiltTx cw ch k (cF l) := ⟨_, rfl⟩
      rw [← hT]
      rcases (Bool.eq_false_or_eq_true (T == l)).symm with hE | hE
      · have HR := Lib.hid (show readQ l = false from readQ_f HNE.out (by rw [HW.out, HH.out, HNC.out, ← hT]; exact beq_eq_false_iff_ne.1 hE))
        have t1 : ((strB T).toList == (strB l).toList) = false := by rw [strB_beq]; exact hE
        have t2 : ((strB T).toList != (strB l).toList) = true := by simp only [bne, t1, Bool.not_false]
        have hb6 := ((hbz6.setCell (p := ⟨b, 0, none⟩) (Nat.le_refl _) (.int .i64 0)).setCell (p := ⟨b, 1, none⟩) (Nat.le_refl _) (.int .i64 0)).setCell (p := ⟨b, 2, none⟩) (Nat.le_refl _) (.slice none 0 0)
        clear G0 GO G06 G16 hown ho6 hb hbz6 hb7 hT hE x0 x1 x2
        go_wp2
        exact bodyPost_ret (v := .tuple #[.agg #[.int .i64 0, .int .i64 0, .slice none 0 0], .bool false]) (by simp [results, Tryd.results23, go_sem, y0, y1, y2, q0, q1, q2]) rfl (RqPost.no HR.out (by rw [← HB.out]; exact hb6))
      · have HR := Lib.hid (show readQ l = true from readQ_of HNE.out (by rw [HW.out, HH.out, HNC.out, ← hT]; exact beq_iff_eq.1 hE))
        have t1 : ((strB T).toList == (strB l).toList) = true := by rw [strB_beq]; exact hE
        have t2 : ((strB T).toList != (strB l).toList) = false := by simp only [bne, t1, Bool.not_true]
        have hb6 := ((hbz6.setCell (p := ⟨b, 0, none⟩) (Nat.le_refl _) (.int .i64 cw)).setCell (p := ⟨b, 1, none⟩) (Nat.le_refl _) (.int .i64 ch)).setCell (p := ⟨b, 2, none⟩) (Nat.le_refl _) (.slice A2 k c2)
        have hne : ∀ (u : World) (j : Nat) (x : Value), OwnS 2 64 u (b + 3) (.slice A2 k c2) k (cF l) → OwnS 2 64 (u.setCell ⟨b, j, none⟩ x) (b + 3) (.slice A2 k c2) k (cF l) := fun u j x h => h.setOther fun q hq => by have := (World.ownsRow.lt h q hq).1; show b ≠ q; omega
        have ho7 := (hne _ 2 (.slice A2 k c2) (hne _ 1 (.int .i64 ch) (hne _ 0 (.int .i64 cw) ho6))).base_ (show b ≤ b + 3 by omega)
        clear G0 GO G06 G16 hown ho6 hb hbz6 hb7 hT hE hne
        go_wp2
        exact bodyPost_ret (v := .tuple #[.agg #[.int .i64 cw, .int .i64 ch, .slice A2 k c2], .bool true]) (by simp [results, Tryd.results23, go_sem, y0, y1, y2, q0, q1, q2]) rfl (by rw [← HW.out, ← HH.out]; exact RqPost.yes HR.out HNC.out.symm (by rw [← HB.out, HW.out, HH.out]; exact ho7) (by rw [← HB.out, HW.out, HH.out]; exact hb6))
end Go.Proofs.YtheafiaemcmjaaaDoor
