/- Contracts of the reference's drawing of blocks: StarBlock, PlainBlock, l03Block, DrawBlock. -/
import Derived.Test.YthenjmjnooaokaaBlkD
import Derived.Deep.RegionHeld3
import Derived.Deep.AppendLies
import Derived.Deep.RegionLaw
namespace Go.Proofs.Ythenjmjnooaokaa
open Go.ChangeShapes Go.WideShapes Go.ChangeAt Go.RowKit
theorem info_cellD : (Try.prog.info? 56).map (fun i => (i.zero, i.size, i.bytes)) = some (some (.agg #[.int .i64 0, .int .i64 0, .int .i64 0]), 3, 24) := by kernel_rfl
def starF : Nat → Nat → Int := fun i => match i with
  | 0 => cellL 1 0 1 | 2 => cellL 2 1 0 | 6 => cellL 2 0 1 | 8 => cellL 1 1 0 | _ => cellL 0 1 1
theorem starF_ok (i : Nat) : cellOk (starF i) = true := by
  unfold starF
  rcases i with _ | _ | _ | _ | _ | _ | _ | _ | _ | i <;> (simp only []; decide)
section
variable {ops : Array Oper} {o : Oper} {a : Act} {Q : Exit → Act → World → Prop} {K : Act → World → Prop} {E : Prop} {w : World}
/-- append of one cell, at a step of a region that draws its order -/
theorem appC_drawn (hgd : o.guard = none) (s x : Operand) (ho : o.op = .call { callee := .builtin .append, args := #[s, x], argTypes := #[29, 29] })
    (base n : Nat) (v : Value) (f : Nat → Nat → Int) (q : Nat → Int) (b : Nat) (hs : a.eval s = v) (hown : OwnS 3 56 w base v n f) (hx : a.eval x = .slice (some ⟨b, 0, none⟩) 1 1)
    (hnew : w.heap[b]? = some (.cells #[.int .i64 (q 0), .int .i64 (q 1), .int .i64 (q 2)] 56 (0, 0))) (hn : n ≤ 1048576) (hbase : base ≤ w.heap.size)
    (h : ∀ A c w', OwnS 3 56 w' base (.slice A (n + 1) c) (n + 1) (updS f n q) → w.grownBy w' v.ownBlock → K (a.put o.dst (.slice A (n + 1) c)) w') :
    if Region.wanted o (yielded ops a.tmps) = true then Oper.wp Try.prog o a w K Q else E := by
  have hw : Region.wanted o (yielded ops a.tmps) = true := by simp [Region.wanted, hgd]
  rw [if_pos hw]
  obtain ⟨i0, hi, hz0, hz1, hz2⟩ := info_parts info_cellD
  refine wp_append_own w s x 29 ho base 56 i0 (.agg #[.int .i64 0, .int .i64 0, .int .i64 0]) 3 24 Try.underlying29 hi hz0 hz1 hz2 rfl (by decide) v n _ hs hown ⟨b, 0, none⟩ 1 1 [.int .i64 (q 0), .int .i64 (q 1), .int .i64 (q 2)] hx rfl (World.news_of_block (cs := #[.int .i64 (q 0), .int .i64 (q 1), .int .i64 (q 2)]) hnew) (by simp [Value.oneCell'])
    (by unfold maxLen; omega) (by omega) hbase ?_
  intro v' w' h1 h2 _
  have e1 : flatS 3 n f ++ [.int .i64 (q 0), .int .i64 (q 1), .int .i64 (q 2)] = flatS 3 (n + 1) (updS f n q) := by
    rw [flatS_snoc _ (by decide), updS_eq, flatS_congr (by decide) (f := f) (f' := updS f n q) (fun i hi j _ => by rw [updS_lt hi])]
    rfl
  have h3 : OwnS 3 56 w' base v' (n + 1) (updS f n q) := by unfold OwnS; rw [← e1]; exact h1
  obtain ⟨A, c, e2⟩ := h3.shape
  rw [e2] at h3 ⊢
  exact h A c w' h3 h2
end
/-- what lies below the row's base stays when the row grows -/
theorem row_far {w w0 w' : World} {base m e n g : Nat} {v : Value} {f : Nat → Nat → Int} {o : Obj} (hg : w.grownBy w' v.ownBlock) (ho : OwnS m e w0 base v n f) (h : w.heap[g]? = some o) (hlt : g < base := by omega) : w'.heap[g]? = some o :=
  (hg.block g (blk_lt h) (fun e => by have := (World.ownsRow.lt ho g e.symm).1; omega)).trans h
set_option maxRecDepth 100000 in
set_option maxHeartbeats 4000000 in
theorem star_any (w : World) : Calls Try.prog 97 #[] w fun e w' => ∃ g, e = .returned (.agg #[.int .i64 3, .slice (some ⟨g, 0, none⟩) 9 9]) ∧ OwnS 3 56 w' w.heap.size (.slice (some ⟨g, 0, none⟩) 9 9) 9 starF ∧ Below w.heap.size w w' := by
  go_enter Try.func97, Try.ntmps97
  go_wp2_with fail
  refine (whole_any 1 _ (by omega) (by omega)).mono ?_
  rintro e w1 ⟨rfl, hb1⟩
  obtain ⟨hcc, hfc⟩ := bcell hb1
  have y0 := (hcc w.heap.size 0 (by simp)).trans (by go_simp : _ = some (.int .i64 0))
  have y1 := (hcc w.heap.size 1 (by simp)).trans (by go_simp : _ = some (.slice none 0 0))
  have z0 := (hfc w.heap.size 0 (by simp)).trans (by go_simp : _ = false)
  have z1 := (hfc w.heap.size 1 (by simp)).trans (by go_simp : _ = false)
  have s1 : w.heap.size < w1.heap.size := by have := hb1.size; simp at this; omega
  have hb2 := ((Below.refl w.heap.size w).alloc (Nat.le_refl _) (.cells #[.int .i64 0, .slice none 0 0] 31)).trans (hb1.mono (by simp))
  clear hcc hfc hb1
  go_wp2_with fail
  obtain ⟨w2, hw2⟩ : ∃ w2, w2 = ((w1.setCell ⟨w.heap.size, 0, none⟩ (.int .i64 3)).setCell ⟨w.heap.size, 1, none⟩ (.slice (some ⟨w1.heap.size + 1, 0, none⟩) 9 9)).alloc (.cells #[.int .i64 0, .int .i64 1, .int .i64 1] 56) := ⟨_, rfl⟩
  have hz : w2.heap.size = w1.heap.size + 1 := by rw [hw2]; simp [World.setCell]
  have hb3 : Below w.heap.size w w2 := by rw [hw2]; exact ((hb2.setCell (p := ⟨w.heap.size, 0, none⟩) (Nat.le_refl _) _).setCell (p := ⟨w.heap.size, 1, none⟩) (Nat.le_refl _) _).alloc (by simp [World.setCell]; omega) _
  have v0 : w2.cell? ⟨w.heap.size, 0, none⟩ = some (.int .i64 3) := by rw [hw2]; go_simp
  have v1 : w2.cell? ⟨w.heap.size, 1, none⟩ = some (.slice (some ⟨w1.heap.size + 1, 0, none⟩) 9 9) := by rw [hw2]; go_simp
  have ho := World.ownsRow_lit (e := 56) (size := 3) (base := w.heap.size) w2 #[.int .i64 1, .int .i64 0, .int .i64 1, .int .i64 0, .int .i64 1, .int .i64 1, .int .i64 2, .int .i64 1, .int .i64 0, .int .i64 0, .int .i64 1, .int .i64 1, .int .i64 0, .int .i64 1, .int .i64 1, .int .i64 0, .int .i64 1, .int .i64 1, .int .i64 2, .int .i64 0, .int .i64 1, .int .i64 0, .int .i64 1, .int .i64 1, .int .i64 1, .int .i64 1, .int .i64 0] 9 (by omega) (by unfold maxLen; omega) rfl
  rw [hz] at ho
  rw [← hw2]
  have zz : w.heap.size < w2.heap.size := by omega
  clear hw2
  exact bodyPost_ret (v := .agg #[.int .i64 3, .slice (some ⟨w1.heap.size + 1, 0, none⟩) 9 9]) (by simp [results, Try.results97, go_sem, v0, v1, zz]) rfl ⟨w1.heap.size + 1, rfl, ho, hb3.alloc hb3.size _⟩
set_option maxRecDepth 100000 in
set_option maxHeartbeats 8000000 in
theorem plain_any (S : Nat) (a : Int) (w : World) (S1 : 1 ≤ S) (S4 : S ≤ 4) (a0 : 0 ≤ a) (a5 : a ≤ 5) : Calls Try.prog 35 #[.int .i64 S, .int .i64 a] w fun e w' => ∃ g c, e = .returned (.tuple #[.agg #[.int .i64 S, .slice (some ⟨g, 0, none⟩) (S * S) c], .bool true]) ∧ OwnS 3 56 w' w.heap.size (.slice (some ⟨g, 0, none⟩) (S * S) c) (S * S) (fun _ => cellL 0 a a) ∧ Below w.heap.size w w' := by
  have hI1 : inB (S : Int) 1 4 = true := by unfold inB; simp; omega
  have hI2 : inB a 0 5 = true := by unfold inB; simp [a0, a5]
  obtain ⟨M, hM⟩ : ∃ M, M = S * S := ⟨_, rfl⟩
  have M16 : 1 ≤ M ∧ M ≤ 16 := by rcases (by omega : S = 1 ∨ S = 2 ∨ S = 3 ∨ S = 4) with e | e | e | e <;> subst e <;> omega
  have mm : (S : Int) * (S : Int) = (M : Int) := by rw [hM]; simp
  have mw : IntKind.i64.wrap ((S : Int) * (S : Int)) = (M : Int) := by rw [mm]; exact IntWalk.i64_in _ (by omega)
  rw [← hM]
  clear hM
  go_enter Try.func35, Try.ntmps35
  go_wp2_with (go_at_call 50; refine (l01In_any _ _ _ _).mono ?_; rintro e w' ⟨rfl, rfl⟩; first | rw [hI1] | rw [hI2])
  have hb0 : Below w.heap.size w ((w.alloc (.cells #[.int .i64 0, .slice none 0 0] 31)).alloc (.cells #[.int .i64 S, .slice none 0 0] 31)) := ((Below.refl _ _).alloc (Nat.le_refl _) _).alloc (by simp) _
  have G0 : ((w.alloc (.cells #[.int .i64 0, .slice none 0 0] 31)).alloc (.cells #[.int .i64 S, .slice none 0 0] 31)).heap[w.heap.size]? = some (.cells #[.int .i64 0, .slice none 0 0] 31 (0, 0)) := blk_alloc (heap_alloc_new w _) _
  have G1 : ((w.alloc (.cells #[.int .i64 0, .slice none 0 0] 31)).alloc (.cells #[.int .i64 S, .slice none 0 0] 31)).heap[w.heap.size + 1]? = some (.cells #[.int .i64 S, .slice none 0 0] 31 (0, 0)) := by simpa using heap_alloc_new (w.alloc (.cells #[.int .i64 0, .slice none 0 0] 31)) (.cells #[.int .i64 S, .slice none 0 0] 31)
  have z0 : w.heap.size + 2 ≤ ((w.alloc (.cells #[.int .i64 0, .slice none 0 0] 31)).alloc (.cells #[.int .i64 S, .slice none 0 0] 31)).heap.size := by simp
  obtain ⟨w0, hw0⟩ : ∃ w0, w0 = (w.alloc (.cells #[.int .i64 0, .slice none 0 0] 31)).alloc (.cells #[.int .i64 S, .slice none 0 0] 31) := ⟨_, rfl⟩
  rw [← hw0] at hb0 G0 G1 z0 ⊢
  clear hw0 hI1 hI2
  go_loopw [7] (fun i wr => ∃ (k : Nat) (A2 : Option Addr) (c2 : Nat), k ≤ M ∧ i = .int .i64 k ∧ wr.heap[w.heap.size]? = some (.cells #[.int .i64 0, .slice none 0 0] 31 (0, 0)) ∧ wr.heap[w.heap.size + 1]? = some (.cells #[.int .i64 S, .slice A2 k c2] 31 (0, 0)) ∧ OwnS 3 56 wr (w.heap.size + 2) (.slice A2 k c2) k (fun _ => cellL 0 a a) ∧ Below w.heap.size w wr ∧ w.heap.size + 2 ≤ wr.heap.size) (fun i _ => M - (intOf i).toNat)
  case atStart => exact ⟨0, none, 0, by omega, rfl, G0, G1, ownS_nil _ _ _ _ _, hb0, z0⟩
  case round =>
    clear G0 G1 hb0 z0
    obtain ⟨k, A2, c2, hk, rfl, G0, G1, hown, hb, hz⟩ := hrel
    by_cases hkm : k < M
    · have k0 : (0 : Int) ≤ (k : Int) := by omega
      have k3 : (k : Int) < (M : Int) := by omega
      have x1 : wr.cell? ⟨w.heap.size + 1, 1, none⟩ = some (.slice A2 k c2) := by rw [blk_cell G1 1]; rfl
      have f1 : wr.frozen? ⟨w.heap.size + 1, 1, none⟩ = false := blk_frozen G1
      go_wp2_with fail
      go_region_law (first
        | (refine appC_drawn (by rfl) _ _ (by rfl) (w.heap.size + 2) k _ (fun _ => cellL 0 a a) (cellL 0 a a) wc0.heap.size (by rfl) (ho2.alloc _) (by rfl) (heap_alloc_new wc0 _) (by omega) (by simp; omega) ?_; intro A4 c4 w4 ho4 hg4; have G6 := row_far hg4 ho2 (blk_alloc G3 _); have t0 : w4.cell? ⟨w.heap.size + 1, 1, none⟩ = some (.slice A2 k c2) := (by rw [blk_cell G6 1]; rfl); have t1 : w4.frozen? ⟨w.heap.size + 1, 1, none⟩ = false := blk_frozen G6)
        | (go_simp; go_at_call 79; ((with_reducible refine (whole_any a _ a0 a5).mono ?_); rintro e wc0 ⟨rfl, hbc0⟩); replace hbc0 := below_drew hbc0; have G2 := blk_below G0 hbc0 (by omega); have G3 := blk_below G1 hbc0 (by omega); have ho2 := hown.keep hbc0; have zc := hbc0.size; have s0 : wc0.cell? ⟨w.heap.size + 1, 1, none⟩ = some (.slice A2 k c2) := (by rw [blk_cell G3 1]; rfl); have s1 : wc0.frozen? ⟨w.heap.size + 1, 1, none⟩ = false := blk_frozen G3; have zne : w.heap.size + 1 < wc0.heap.size := (by omega); have zn2 : w.heap.size + 1 ≠ wc0.heap.size := (by omega)))
      all_goals
        have G7 := heap_setCell_same w4 (w.heap.size + 1) 1 _ _ (.slice A4 (k + 1) c4) G6
        have G7' : (w4.setCell ⟨w.heap.size + 1, 1, none⟩ (.slice A4 (k + 1) c4)).heap[w.heap.size + 1]? = some (.cells #[.int .i64 S, .slice A4 (k + 1) c4] 31 (0, 0)) := by simpa using G7
        have G8 := blk_set (row_far hg4 ho2 (blk_alloc G2 (.cells #[.int .i64 0, .int .i64 a, .int .i64 a] 56))) (p := ⟨w.heap.size + 1, 1, none⟩) (show w.heap.size ≠ w.heap.size + 1 by omega) (.slice A4 (k + 1) c4)
        have ho5 := (ho4.setOther (p := ⟨w.heap.size + 1, 1, none⟩) (x := .slice A4 (k + 1) c4) (fun q hq => by have := (World.ownsRow.lt ho4 q hq).1; show w.heap.size + 1 ≠ q; omega)).congr (f' := fun _ => cellL 0 a a) (by decide) (fun i _ j _ => by unfold updS; split <;> rfl)
        have hb6 := ((((hb.trans (hbc0.mono (by omega))).alloc (by omega) (.cells #[.int .i64 0, .int .i64 a, .int .i64 a] 56)).grown hg4 (by simp; omega) (fun q hq => by have := (World.ownsRow.lt ho2 q hq).1; omega)).setCell (p := ⟨w.heap.size + 1, 1, none⟩) (show w.heap.size ≤ w.heap.size + 1 by omega) (.slice A4 (k + 1) c4))
        have z9 : w.heap.size + 2 ≤ (w4.setCell ⟨w.heap.size + 1, 1, none⟩ (.slice A4 (k + 1) c4)).heap.size := by have := hg4.size; simp [World.setCell] at this ⊢; omega
        clear G0 G1 G2 G3 G6 G7 ho2 ho4 hown hb hbc0 hg4 s0 s1 t0 t1 x1 f1
        go_wp2
        go_roundw
        case rel => exact ⟨k + 1, A4, c4, by omega, by go_num, G8, G7', ho5, hb6, z9⟩
        case measure => simp [intOf]; omega
    · obtain rfl : k = M := by omega
      have k3 : ¬ (k : Int) < (k : Int) := by omega
      obtain ⟨g, rfl⟩ := hown.some_ (by omega)
      have x0 : wr.cell? ⟨w.heap.size + 1, 0, none⟩ = some (.int .i64 S) := by rw [blk_cell G1 0]; rfl
      have x1 : wr.cell? ⟨w.heap.size + 1, 1, none⟩ = some (.slice (some ⟨g, 0, none⟩) k c2) := by rw [blk_cell G1 1]; rfl
      have y0 : wr.cell? ⟨w.heap.size, 0, none⟩ = some (.int .i64 0) := by rw [blk_cell G0 0]; rfl
      have y1 : wr.cell? ⟨w.heap.size, 1, none⟩ = some (.slice none 0 0) := by rw [blk_cell G0 1]; rfl
      have q0 : wr.frozen? ⟨w.heap.size, 0, none⟩ = false := blk_frozen G0
      have q1 : wr.frozen? ⟨w.heap.size, 1, none⟩ = false := blk_frozen G0
      have hge := hown.ge
      have hne : ∀ (u : World) (j : Nat) (x : Value), OwnS 3 56 u (w.heap.size + 2) (.slice (some ⟨g, 0, none⟩) k c2) k (fun _ => cellL 0 a a) → OwnS 3 56 (u.setCell ⟨w.heap.size, j, none⟩ x) (w.heap.size + 2) (.slice (some ⟨g, 0, none⟩) k c2) k (fun _ => cellL 0 a a) := fun u j x h => h.setOther fun q hq => by have := (World.ownsRow.lt h q hq).1; show w.heap.size ≠ q; omega
      have ho7 := (hne _ 1 (.slice (some ⟨g, 0, none⟩) k c2) (hne _ 0 (.int .i64 S) hown)).base_ (show w.heap.size ≤ w.heap.size + 2 by omega)
      have hb7 := (hb.setCell (p := ⟨w.heap.size, 0, none⟩) (Nat.le_refl _) (.int .i64 S)).setCell (p := ⟨w.heap.size, 1, none⟩) (Nat.le_refl _) (.slice (some ⟨g, 0, none⟩) k c2)
      clear G0 G1 hown hb hne
      go_wp2
      exact bodyPost_ret (v := .tuple #[.agg #[.int .i64 S, .slice (some ⟨g, 0, none⟩) k c2], .bool true]) (by simp [results, Try.results35, go_sem, y0, y1, q0, q1]) rfl ⟨g, c2, rfl, ho7, hb7⟩
end Go.Proofs.Ythenjmjnooaokaa
