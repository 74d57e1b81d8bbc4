/- Contracts of the reference's l03Copy and SeenFrom. -/
import Derived.Test.YthenjmjnooaokaaTurn
import Derived.Test.YthenjmjnooaokaaMir
import Derived.Test.YthenjmjnooaokaaBlkF
namespace Go.Proofs.Ythenjmjnooaokaa
open Go.ChangeShapes Go.WideShapes Go.ChangeAt Go.RowKit
/-- the cells of a row of structs, one after the other -/
theorem news_of_rowP {w : World} {m B n c : Nat} {ad : Addr} {f : Nat → Nat → Int} (hm : 0 < m) (h : RowP m w B (some ad) n c f) : ∀ j u, (flatS m n f)[j]? = some u → w.cell? (ad.add j) = some u := by
  intro j u hj
  have hl : j < n * m := by
    have := List.getElem?_eq_some_iff.1 hj
    obtain ⟨q, _⟩ := this
    rw [flatS_len] at q
    exact q
  have hn : j / m < n := (Nat.div_lt_iff_lt_mul hm).2 hl
  have hr : j % m < m := Nat.mod_lt _ hm
  obtain ⟨b, off, e, _, hc⟩ := h.at_ hn
  cases e
  have hd : j / m * m + j % m = j := by rw [Nat.mul_comm]; exact Nat.div_add_mod j m
  have h1 := flatS_get (m := m) (n := n) f hn hr
  rw [hd] at h1
  rw [h1] at hj
  cases hj
  have h2 := hc _ hr
  rw [hd] at h2
  rw [add_plain]; exact h2
section
variable {ops : Array Oper} {o : Oper} {a : Act} {Q : Exit → Act → World → Prop} {K : Act → World → Prop} {E : Prop} {w : World}
/-- append of a whole row of cells to an empty slice, at a step of a region that draws its order -/
theorem copyC_drawn (hgd : o.guard = none) (s x : Operand) (ho : o.op = .call { callee := .builtin .append, args := #[s, x], argTypes := #[29, 29] })
    (base n c B : Nat) (v : Value) (ad : Addr) (f g : Nat → Nat → Int) (hs : a.eval s = v) (hown : OwnS 3 56 w base v 0 g) (hx : a.eval x = .slice (some ad) n c)
    (hr : RowP 3 w B (some ad) n c f) (hn : n ≤ 1048576) (hbase : base ≤ w.heap.size)
    (h : ∀ A c w', OwnS 3 56 w' base (.slice A n c) n f → w.grownBy w' v.ownBlock → K (a.put o.dst (.slice A n c)) w') :
    if Region.wanted o (yielded ops a.tmps) = true then Oper.wp Try.prog o a w K Q else E := by
  have hw : Region.wanted o (yielded ops a.tmps) = true := by simp [Region.wanted, hgd]
  rw [if_pos hw]
  obtain ⟨i0, hi, hz0, hz1, hz2⟩ := info_parts info_cellD
  refine wp_append_own w s x 29 ho base 56 i0 (.agg #[.int .i64 0, .int .i64 0, .int .i64 0]) 3 24 Try.underlying29 hi hz0 hz1 hz2 rfl (by decide) v 0 _ hs hown ad n c (flatS 3 n f) hx (by rw [flatS_len]) (news_of_rowP (by decide) hr) ?_
    (by unfold maxLen; omega) (by omega) hbase ?_
  · intro u hu
    unfold flatS at hu
    obtain ⟨q, _, rfl⟩ := List.mem_map.1 hu
    rfl
  · intro v' w' h1 h2 _
    have e1 : flatS 3 0 g ++ flatS 3 n f = flatS 3 n f := by simp [flatS]
    rw [e1, Nat.zero_add] at h1
    have h3 : OwnS 3 56 w' base v' n f := h1
    obtain ⟨A, c, e2⟩ := h3.shape
    rw [e2] at h3 ⊢
    exact h A c w' h3 h2
end
set_option maxRecDepth 100000 in
set_option maxHeartbeats 4000000 in
theorem copyB_any (S M : Nat) (A : Option Addr) (c : Nat) (f : Nat → Nat → Int) (B : Nat) (w : World) (M16 : 1 ≤ M ∧ M ≤ 16) (h : RowP 3 w B A M c f) (hB : B ≤ w.heap.size) :
    Calls Try.prog 74 #[.agg #[.int .i64 S, .slice A M c]] w fun e w' => ∃ g c2, e = .returned (.agg #[.int .i64 S, .slice (some ⟨g, 0, none⟩) M c2]) ∧ OwnS 3 56 w' w.heap.size (.slice (some ⟨g, 0, none⟩) M c2) M f ∧ Below w.heap.size w w' := by
  obtain ⟨gA, off, rfl⟩ := rowP_some h M16.1
  go_enter Try.func74, Try.ntmps74
  go_upto_region 1 with fail
  obtain ⟨b, hb⟩ : ∃ b, b = w.heap.size := ⟨_, rfl⟩
  have G0 : ((w.alloc (.cells #[.int .i64 S, .slice (some ⟨gA, off, none⟩) M c] 31)).alloc (.cells #[.int .i64 0, .slice none 0 0] 31)).heap[b]? = some (.cells #[.int .i64 S, .slice (some ⟨gA, off, none⟩) M c] 31 (0, 0)) := by rw [hb]; exact blk_alloc (heap_alloc_new w _) _
  have G1 : ((w.alloc (.cells #[.int .i64 S, .slice (some ⟨gA, off, none⟩) M c] 31)).alloc (.cells #[.int .i64 0, .slice none 0 0] 31)).heap[b + 1]? = some (.cells #[.int .i64 0, .slice none 0 0] 31 (0, 0)) := by rw [hb]; simpa using heap_alloc_new (w.alloc _) (.cells #[.int .i64 0, .slice none 0 0] 31)
  have hb2 : Below b w ((w.alloc (.cells #[.int .i64 S, .slice (some ⟨gA, off, none⟩) M c] 31)).alloc (.cells #[.int .i64 0, .slice none 0 0] 31)) := by rw [hb]; exact ((Below.refl w.heap.size w).alloc (Nat.le_refl _) _).alloc (by simp) _
  obtain ⟨w2, hw2⟩ : ∃ w2, w2 = (w.alloc (.cells #[.int .i64 S, .slice (some ⟨gA, off, none⟩) M c] 31)).alloc (.cells #[.int .i64 0, .slice none 0 0] 31) := ⟨_, rfl⟩
  have z2 : w2.heap.size = b + 2 := by rw [hw2, hb]; simp
  rw [← hw2] at G0 G1 hb2 ⊢
  have HBW := Lib.hid hb
  rw [← hb]
  have bw : B ≤ b := by omega
  clear hw2 hb hB
  have hP : RowP 3 w2 B (some ⟨gA, off, none⟩) M c f := h.keep fun p hp => hb2.cell (by omega)
  have x0 : w2.cell? ⟨b, 0, none⟩ = some (.int .i64 S) := by rw [blk_cell G0 0]; rfl
  have x1 : w2.cell? ⟨b, 1, none⟩ = some (.slice (some ⟨gA, off, none⟩) M c) := by rw [blk_cell G0 1]; rfl
  have f0 : w2.frozen? ⟨b + 1, 0, none⟩ = false := blk_frozen G1
  have f1 : w2.frozen? ⟨b + 1, 1, none⟩ = false := blk_frozen G1
  have hz2 : b + 2 ≤ w2.heap.size := by omega
  have hz3 : w2.heap.size ≤ b + 2 := by omega
  have hown := (ownS_empty 3 56 w2.drew f).base_ (base' := b + 2) hz2
  clear z2
  go_region_held3 (fun w' => w'.cell? ⟨b, 0, none⟩ = some (.int .i64 S) ∧ w'.cell? ⟨b, 1, none⟩ = some (.slice (some ⟨gA, off, none⟩) M c)) (first | go_keep | (exact ⟨s0, s1⟩)) (first
    | (refine copyC_drawn (by rfl) _ _ (by rfl) (b + 2) M c B _ ⟨gA, off, none⟩ f f (by rfl) hown (by rfl) (by exact hP.keep fun p hp => ((Below.refl b w2).drew.alloc (by simp; omega) _).cell (by omega)) (by omega) (by simp; omega) ?_; intro A4 c4 w4 ho4 hg4; have G04 := row_far hg4 hown (blk_alloc (w := w2.drew) G0 _) (by omega); have G14 := row_far hg4 hown (blk_alloc (w := w2.drew) G1 _) (by omega); have s0 : w4.cell? ⟨b, 0, none⟩ = some (.int .i64 S) := (by rw [blk_cell G04 0]; rfl); have s1 : w4.cell? ⟨b, 1, none⟩ = some (.slice (some ⟨gA, off, none⟩) M c) := (by rw [blk_cell G04 1]; rfl); have t0 : w4.cell? ⟨b + 1, 0, none⟩ = some (.int .i64 0) := (by rw [blk_cell G14 0]; rfl); have t1 : w4.cell? ⟨b + 1, 1, none⟩ = some (.slice none 0 0) := (by rw [blk_cell G14 1]; rfl); have t2 : w4.frozen? ⟨b + 1, 0, none⟩ = false := blk_frozen G14; have t3 : w4.frozen? ⟨b + 1, 1, none⟩ = false := blk_frozen G14))
  have hb4 := (((hb2.drew.alloc (show b ≤ w2.drew.heap.size by simp; omega) (.cells #[] 56)).grown hg4 (by simp; omega) (fun q hq => by have := (World.ownsRow.lt hown q hq).1; omega)).setCell (p := ⟨b + 1, 0, none⟩) (show b ≤ b + 1 by omega) (.int .i64 S)).setCell (p := ⟨b + 1, 1, none⟩) (show b ≤ b + 1 by omega) (.slice A4 M c4)
  have hne : ∀ (u : World) (i : Nat) (x : Value), OwnS 3 56 u (b + 2) (.slice A4 M c4) M f → OwnS 3 56 (u.setCell ⟨b + 1, i, none⟩ x) (b + 2) (.slice A4 M c4) M f := fun u i x h => h.setOther fun q hq => by have := (World.ownsRow.lt h q hq).1; show b + 1 ≠ q; omega
  have ho7 := (hne _ 1 (.slice A4 M c4) (hne _ 0 (.int .i64 S) ho4)).base_ (show b ≤ b + 2 by omega)
  obtain ⟨g, rfl⟩ := ho4.some_ (by omega)
  clear G0 G1 G04 G14 ho4 hg4 hown hne hb2 hP x0 x1 f0 f1 s0 s1
  go_wp2
  exact bodyPost_ret (v := .agg #[.int .i64 S, .slice (some ⟨g, 0, none⟩) M c4]) (by simp [results, Try.results74, go_sem, t0, t1, t2, t3]) rfl ⟨g, c4, rfl, by rw [← HBW.out]; exact ho7, by rw [← HBW.out]; exact hb4⟩
theorem turnF_ok {S M : Nat} {f : Nat → Nat → Int} (hM : M = S * S) (S1 : 1 ≤ S) (h : ∀ k, k < M → cellOk (f k) = true) : ∀ k, k < M → cellOk (turnF S f k) = true := by
  intro k hk
  unfold turnF
  rw [turn_ok]
  have h1 : k % S < S := Nat.mod_lt _ (by omega)
  have h2 : k / S < S := (Nat.div_lt_iff_lt_mul (by omega)).2 (by omega)
  exact h _ (by rw [hM]; exact place_in (by omega) h2)
theorem mirF_ok {S M : Nat} {f : Nat → Nat → Int} (hM : M = S * S) (S1 : 1 ≤ S) (h : ∀ k, k < M → cellOk (f k) = true) : ∀ k, k < M → cellOk (mirF S f k) = true := by
  intro k hk
  unfold mirF
  rw [mir_ok]
  have h1 : k % S < S := Nat.mod_lt _ (by omega)
  have h2 : k / S < S := (Nat.div_lt_iff_lt_mul (by omega)).2 (by omega)
  exact h _ (by rw [hM]; exact place_in h2 (by omega))
theorem ownS_rowP {w : World} {base g M c : Nat} {f : Nat → Nat → Int} (h : OwnS 3 56 w base (.slice (some ⟨g, 0, none⟩) M c) M f) (hk : ∀ k, k < M → cellOk (f k) = true) : RowP 3 w w.heap.size (some ⟨g, 0, none⟩) M c f := h.rowP fun i hi j hj => cell_wf (hk i hi) hj
def SeenPost (S M : Nat) (f : Nat → Nat → Int) (w : World) (e : Ending) (w' : World) : Prop := ∃ g c d, e = .returned (.agg #[.int .i64 S, .slice (some ⟨g, 0, none⟩) M c]) ∧ (∀ k, k < M → cellOk (d k) = true) ∧ SameC S d f ∧ OwnS 3 56 w' w.heap.size (.slice (some ⟨g, 0, none⟩) M c) M d ∧ Below w.heap.size w w'
set_option maxRecDepth 100000 in
set_option maxHeartbeats 8000000 in
theorem seen_any (S M k : Nat) (A : Option Addr) (c : Nat) (f : Nat → Nat → Int) (B : Nat) (w : World) (hM : M = S * S) (S1 : 1 ≤ S) (S4 : S ≤ 4) (hOK : ∀ k, k < M → cellOk (f k) = true) (h : RowP 3 w B A M c f) (hB : B ≤ w.heap.size) (k7 : k ≤ 7) :
    Calls Try.prog 33 #[.agg #[.int .i64 S, .slice A M c], .int .i64 k] w (SeenPost S M f w) := by
  have HM := Lib.hid hM
  have HOK := Lib.hid hOK
  have M16 : 1 ≤ M ∧ M ≤ 16 := by rcases (by omega : S = 1 ∨ S = 2 ∨ S = 3 ∨ S = 4) with e | e | e | e <;> subst e <;> omega
  have HB := Lib.hid (show blockOk (S : Int) M f = true by
    unfold blockOk cellsOk
    rw [show inB (S : Int) 1 4 = true by unfold inB; simp; omega, show ((M : Int) == (S : Int) * S) = true by rw [hM]; simp, allTo_iff.2 hOK]
    rfl)
  have HI := Lib.hid (show inB (k : Int) 0 7 = true by unfold inB; simp; omega)
  obtain ⟨q, hq⟩ : ∃ q, q = k % 4 := ⟨_, rfl⟩
  have t1 : (k : Int).tmod 4 = (q : Int) := by rw [Int.tmod_eq_emod_of_nonneg (by omega)]; omega
  have q3 : q ≤ 3 := by omega
  clear hM hOK hq
  go_enter Try.func33, Try.ntmps33
  go_wp2_with fail
  refine (spec_blockOk S A M c f B _ (h.keep fun p hp => (((Below.refl w.heap.size w).alloc (Nat.le_refl _) _).alloc (by simp) _).cell (by omega)) (by simp; omega)).mono ?_
  rintro e w1 ⟨rfl, hb1⟩
  rw [HB.out]
  obtain ⟨b, hb⟩ : ∃ b, b = w.heap.size := ⟨_, rfl⟩
  have G0 : w1.heap[b]? = some (.cells #[.int .i64 S, .slice A M c] 31 (0, 0)) := by rw [hb]; exact blk_below (blk_alloc (heap_alloc_new w _) _) hb1 (by simp; omega)
  have G1 : w1.heap[b + 1]? = some (.cells #[.int .i64 0, .slice none 0 0] 31 (0, 0)) := by rw [hb]; exact blk_below (by simpa using heap_alloc_new (w.alloc _) (.cells #[.int .i64 0, .slice none 0 0] 31)) hb1 (by simp)
  have hb2 : Below b w w1 := by rw [hb]; exact (((Below.refl w.heap.size w).alloc (Nat.le_refl _) _).alloc (by simp) _).trans (hb1.mono (by simp; omega))
  have z1 : b + 2 ≤ w1.heap.size := by have := hb1.size; simp at this; omega
  have bw : B ≤ b := by omega
  have HBW := Lib.hid hb
  rw [← hb]
  clear hb hb1 hB
  have x0 : w1.cell? ⟨b, 0, none⟩ = some (.int .i64 S) := by rw [blk_cell G0 0]; rfl
  have x1 : w1.cell? ⟨b, 1, none⟩ = some (.slice A M c) := by rw [blk_cell G0 1]; rfl
  go_wp2_with fail
  refine (l01In_any _ _ _ _).mono ?_
  rintro e w' ⟨rfl, rfl⟩
  rw [HI.out]
  go_wp2_with fail
  refine (copyB_any S M A c f B _ M16 (h.keep fun p hp => hb2.cell (by omega)) (by omega)).mono ?_
  rintro e w2 ⟨g, c2, rfl, ho, hb3⟩
  have z2 := hb3.size
  have G02 := blk_alloc (blk_below G0 hb3 (by omega)) (.cells #[.int .i64 S, .slice (some ⟨g, 0, none⟩) M c2] 31)
  have G12 := blk_alloc (blk_below G1 hb3 (by omega)) (.cells #[.int .i64 S, .slice (some ⟨g, 0, none⟩) M c2] 31)
  have GO2 : (w2.alloc (.cells #[.int .i64 S, .slice (some ⟨g, 0, none⟩) M c2] 31)).heap[w2.heap.size]? = some (.cells #[.int .i64 S, .slice (some ⟨g, 0, none⟩) M c2] 31 (0, 0)) := heap_alloc_new w2 _
  have hb4 := (hb2.trans (hb3.mono (by omega))).alloc (show b ≤ w2.heap.size by omega) (.cells #[.int .i64 S, .slice (some ⟨g, 0, none⟩) M c2] 31)
  have ho4 := (ho.base_ (show b + 2 ≤ w1.heap.size by omega)).alloc (.cells #[.int .i64 S, .slice (some ⟨g, 0, none⟩) M c2] 31)
  have gne : g ≠ w2.heap.size := by have := ho.ge; omega
  have y0 : (w2.alloc (.cells #[.int .i64 S, .slice (some ⟨g, 0, none⟩) M c2] 31)).cell? ⟨b, 0, none⟩ = some (.int .i64 S) := by rw [blk_cell G02 0]; rfl
  have y1 : (w2.alloc (.cells #[.int .i64 S, .slice (some ⟨g, 0, none⟩) M c2] 31)).cell? ⟨b, 1, none⟩ = some (.slice A M c) := by rw [blk_cell G02 1]; rfl
  obtain ⟨o, ho_⟩ : ∃ o, o = w2.heap.size := ⟨_, rfl⟩
  obtain ⟨w3, hw3⟩ : ∃ w3, w3 = w2.alloc (.cells #[.int .i64 S, .slice (some ⟨g, 0, none⟩) M c2] 31) := ⟨_, rfl⟩
  have z3 : w3.heap.size = o + 1 := by rw [hw3, ho_]; simp
  rw [← ho_] at GO2 gne
  rw [← hw3] at G02 G12 GO2 hb4 ho4
  have bo : b + 2 ≤ o := by omega
  have HO_ := Lib.hid ho_
  have HW3 := Lib.hid hw3
  clear G0 G1 hb2 ho hb3 x0 x1 z1 z2 ho_ hw3
  rcases (by omega : k < 4 ∨ 4 ≤ k) with hk4 | hk4
  · have d1 : ¬ (4 : Int) ≤ (k : Int) := by omega
    go_wp2_with fail
    rw [← HW3.out, ← HO_.out]
    clear HW3 y0 y1 G02 d1
    have st : ∃ (n : Nat) (g c2 : Nat) (d : Nat → Nat → Int), n ≤ q ∧ Value.int .i64 0 = .int .i64 n ∧ w3.heap[b + 1]? = some (.cells #[.int .i64 0, .slice none 0 0] 31 (0, 0)) ∧ w3.heap[o]? = some (.cells #[.int .i64 S, .slice (some ⟨g, 0, none⟩) M c2] 31 (0, 0)) ∧ OwnS 3 56 w3 (b + 2) (.slice (some ⟨g, 0, none⟩) M c2) M d ∧ g ≠ o ∧ Hid (∀ i, i < M → cellOk (d i) = true) ∧ Hid (SameC S d f) ∧ Below b w w3 ∧ o + 1 ≤ w3.heap.size := ⟨0, g, c2, f, by omega, rfl, G12, GO2, ho4, gne, HOK, Lib.hid (SameC.refl S f), hb4, by omega⟩
    clear G12 GO2 ho4 gne hb4 z3
    go_loopw [6] (fun i wr => ∃ (n : Nat) (g c2 : Nat) (d : Nat → Nat → Int), n ≤ q ∧ i = .int .i64 n ∧ wr.heap[b + 1]? = some (.cells #[.int .i64 0, .slice none 0 0] 31 (0, 0)) ∧ wr.heap[o]? = some (.cells #[.int .i64 S, .slice (some ⟨g, 0, none⟩) M c2] 31 (0, 0)) ∧ OwnS 3 56 wr (b + 2) (.slice (some ⟨g, 0, none⟩) M c2) M d ∧ g ≠ o ∧ Hid (∀ i, i < M → cellOk (d i) = true) ∧ Hid (SameC S d f) ∧ Below b w wr ∧ o + 1 ≤ wr.heap.size) (fun i _ => q - (intOf i).toNat)
    case atStart => exact st
    case round =>
      clear st
      obtain ⟨n, g, c2, d, hn, rfl, G1, GO, hown, gne, HD, HS, hb, hz⟩ := hrel
      have v0 : wr.cell? ⟨o, 0, none⟩ = some (.int .i64 S) := by rw [blk_cell GO 0]; rfl
      have v1 : wr.cell? ⟨o, 1, none⟩ = some (.slice (some ⟨g, 0, none⟩) M c2) := by rw [blk_cell GO 1]; rfl
      by_cases hlt : n < q
      · have n3 : (n : Int) < (q : Int) := by omega
        go_wp2_with fail
        refine (turnBlock_any S M (some ⟨g, 0, none⟩) c2 d _ wr HM.out S1 S4 HD.out (ownS_rowP hown HD.out) (Nat.le_refl _)).mono ?_
        rintro e w5 ⟨g5, c5, rfl, ho5, hb5⟩
        have G15 := blk_below G1 hb5 (by omega)
        have GO5 := blk_below GO hb5 (by omega)
        have ge5 := ho5.ge
        have z5 := hb5.size
        have hs6 : ((w5.setCell ⟨o, 0, none⟩ (.int .i64 S)).setCell ⟨o, 1, none⟩ (.slice (some ⟨g5, 0, none⟩) M c5)).heap[o]? = some (.cells #[.int .i64 S, .slice (some ⟨g5, 0, none⟩) M c5] 31 (0, 0)) := by simpa using (heap_setCell_same (w5.setCell ⟨o, 0, none⟩ (.int .i64 S)) o 1 _ _ (.slice (some ⟨g5, 0, none⟩) M c5) (heap_setCell_same w5 o 0 _ _ (.int .i64 S) GO5))
        have G16 := blk_set (blk_set G15 (p := ⟨o, 0, none⟩) (show b + 1 ≠ o by omega) (.int .i64 S)) (p := ⟨o, 1, none⟩) (show b + 1 ≠ o by omega) (.slice (some ⟨g5, 0, none⟩) M c5)
        have ho6 := ((ho5.setOther (p := ⟨o, 0, none⟩) (x := .int .i64 S) (fun q hq => by have := (World.ownsRow.lt ho5 q hq).1; show o ≠ q; omega)).setOther (p := ⟨o, 1, none⟩) (x := .slice (some ⟨g5, 0, none⟩) M c5) (fun q hq => by have := (World.ownsRow.lt ho5 q hq).1; show o ≠ q; omega)).base_ (show b + 2 ≤ wr.heap.size by omega)
        have hb6 := ((hb.trans (hb5.mono (by omega))).setCell (p := ⟨o, 0, none⟩) (show b ≤ o by omega) (.int .i64 S)).setCell (p := ⟨o, 1, none⟩) (show b ≤ o by omega) (.slice (some ⟨g5, 0, none⟩) M c5)
        have zz : o + 1 ≤ ((w5.setCell ⟨o, 0, none⟩ (.int .i64 S)).setCell ⟨o, 1, none⟩ (.slice (some ⟨g5, 0, none⟩) M c5)).heap.size := by simp [World.setCell]; omega
        have gne5 : g5 ≠ o := by omega
        have v0 : w5.cell? ⟨o, 0, none⟩ = some (.int .i64 S) := by rw [blk_cell GO5 0]; rfl
        have v1 : w5.cell? ⟨o, 1, none⟩ = some (.slice (some ⟨g, 0, none⟩) M c2) := by rw [blk_cell GO5 1]; rfl
        have v2 : w5.frozen? ⟨o, 0, none⟩ = false := blk_frozen GO5
        have v3 : w5.frozen? ⟨o, 1, none⟩ = false := blk_frozen GO5
        have HD5 := Lib.hid (turnF_ok HM.out S1 HD.out)
        have HS5 := Lib.hid (HS.out.turn S1 S4)
        clear G1 GO hown gne hb hz G15 GO5 ho5 hb5 ge5 z5
        go_wp2
        go_roundw
        case rel => exact ⟨n + 1, g5, c5, turnF S d, by omega, by go_num, G16, hs6, ho6, gne5, HD5, HS5, hb6, zz⟩
        case measure => simp [intOf]; omega
      · obtain rfl : n = q := by omega
        have n3 : ¬ (n : Int) < (n : Int) := by omega
        have y0 : wr.cell? ⟨b + 1, 0, none⟩ = some (.int .i64 0) := by rw [blk_cell G1 0]; rfl
        have y1 : wr.cell? ⟨b + 1, 1, none⟩ = some (.slice none 0 0) := by rw [blk_cell G1 1]; rfl
        have q0 : wr.frozen? ⟨b + 1, 0, none⟩ = false := blk_frozen G1
        have q1 : wr.frozen? ⟨b + 1, 1, none⟩ = false := blk_frozen G1
        have hne : ∀ (u : World) (i : Nat) (x : Value), OwnS 3 56 u (b + 2) (.slice (some ⟨g, 0, none⟩) M c2) M d → OwnS 3 56 (u.setCell ⟨b + 1, i, none⟩ x) (b + 2) (.slice (some ⟨g, 0, none⟩) M c2) M d := fun u i x h => h.setOther fun q hq => by have := (World.ownsRow.lt h q hq).1; show b + 1 ≠ q; omega
        have ho7 := (hne _ 1 (.slice (some ⟨g, 0, none⟩) M c2) (hne _ 0 (.int .i64 S) hown)).base_ (show b ≤ b + 2 by omega)
        have hb7 := (hb.setCell (p := ⟨b + 1, 0, none⟩) (show b ≤ b + 1 by omega) (.int .i64 S)).setCell (p := ⟨b + 1, 1, none⟩) (show b ≤ b + 1 by omega) (.slice (some ⟨g, 0, none⟩) M c2)
        clear G1 GO hown hb hne
        go_wp2
        exact bodyPost_ret (v := .agg #[.int .i64 S, .slice (some ⟨g, 0, none⟩) M c2]) (by simp [results, Try.results33, go_sem, y0, y1, q0, q1]) rfl ⟨g, c2, d, rfl, HD.out, HS.out, by rw [← HBW.out]; exact ho7, by rw [← HBW.out]; exact hb7⟩
  · have d1 : (4 : Int) ≤ (k : Int) := by omega
    go_wp2_with fail
    rw [← HW3.out]
    simp only [← HO_.out]
    refine (mirBlock_any S M A c f B w3 HM.out S1 S4 HOK.out (h.keep fun p hp => hb4.cell (by omega)) (by omega)).mono ?_
    rintro e w5 ⟨g5, c5, rfl, ho5, hb5⟩
    have G15 := blk_below G12 hb5 (by omega)
    have GO5 := blk_below GO2 hb5 (by omega)
    have ge5 := ho5.ge
    have z5 := hb5.size
    have hs5 := (heap_setCell_same (w5.setCell ⟨o, 0, none⟩ (.int .i64 S)) o 1 _ _ (.slice (some ⟨g5, 0, none⟩) M c5) (heap_setCell_same w5 o 0 _ _ (.int .i64 S) GO5))
    have hs6 : ((w5.setCell ⟨o, 0, none⟩ (.int .i64 S)).setCell ⟨o, 1, none⟩ (.slice (some ⟨g5, 0, none⟩) M c5)).heap[o]? = some (.cells #[.int .i64 S, .slice (some ⟨g5, 0, none⟩) M c5] 31 (0, 0)) := by simpa using hs5
    have G16 := blk_set (blk_set G15 (p := ⟨o, 0, none⟩) (show b + 1 ≠ o by omega) (.int .i64 S)) (p := ⟨o, 1, none⟩) (show b + 1 ≠ o by omega) (.slice (some ⟨g5, 0, none⟩) M c5)
    have ho6 := ((ho5.setOther (p := ⟨o, 0, none⟩) (x := .int .i64 S) (fun q hq => by have := (World.ownsRow.lt ho5 q hq).1; show o ≠ q; omega)).setOther (p := ⟨o, 1, none⟩) (x := .slice (some ⟨g5, 0, none⟩) M c5) (fun q hq => by have := (World.ownsRow.lt ho5 q hq).1; show o ≠ q; omega)).base_ (show b + 2 ≤ w3.heap.size by omega)
    have hb6 := ((hb4.trans (hb5.mono (by omega))).setCell (p := ⟨o, 0, none⟩) (show b ≤ o by omega) (.int .i64 S)).setCell (p := ⟨o, 1, none⟩) (show b ≤ o by omega) (.slice (some ⟨g5, 0, none⟩) M c5)
    have zz : o + 1 ≤ ((w5.setCell ⟨o, 0, none⟩ (.int .i64 S)).setCell ⟨o, 1, none⟩ (.slice (some ⟨g5, 0, none⟩) M c5)).heap.size := by simp [World.setCell]; omega
    have v0 : w5.cell? ⟨o, 0, none⟩ = some (.int .i64 S) := by rw [blk_cell GO5 0]; rfl
    have v1 : w5.cell? ⟨o, 1, none⟩ = some (.slice (some ⟨g, 0, none⟩) M c2) := by rw [blk_cell GO5 1]; rfl
    have v2 : w5.frozen? ⟨o, 0, none⟩ = false := blk_frozen GO5
    have v3 : w5.frozen? ⟨o, 1, none⟩ = false := blk_frozen GO5
    have st : ∃ (n : Nat) (g c2 : Nat) (d : Nat → Nat → Int), n ≤ q ∧ Value.int .i64 0 = .int .i64 n ∧ ((w5.setCell ⟨o, 0, none⟩ (.int .i64 S)).setCell ⟨o, 1, none⟩ (.slice (some ⟨g5, 0, none⟩) M c5)).heap[b + 1]? = some (.cells #[.int .i64 0, .slice none 0 0] 31 (0, 0)) ∧ ((w5.setCell ⟨o, 0, none⟩ (.int .i64 S)).setCell ⟨o, 1, none⟩ (.slice (some ⟨g5, 0, none⟩) M c5)).heap[o]? = some (.cells #[.int .i64 S, .slice (some ⟨g, 0, none⟩) M c2] 31 (0, 0)) ∧ OwnS 3 56 ((w5.setCell ⟨o, 0, none⟩ (.int .i64 S)).setCell ⟨o, 1, none⟩ (.slice (some ⟨g5, 0, none⟩) M c5)) (b + 2) (.slice (some ⟨g, 0, none⟩) M c2) M d ∧ g ≠ o ∧ Hid (∀ i, i < M → cellOk (d i) = true) ∧ Hid (SameC S d f) ∧ Below b w ((w5.setCell ⟨o, 0, none⟩ (.int .i64 S)).setCell ⟨o, 1, none⟩ (.slice (some ⟨g5, 0, none⟩) M c5)) ∧ o + 1 ≤ ((w5.setCell ⟨o, 0, none⟩ (.int .i64 S)).setCell ⟨o, 1, none⟩ (.slice (some ⟨g5, 0, none⟩) M c5)).heap.size := ⟨0, g5, c5, mirF S f, by omega, rfl, G16, hs6, ho6, by omega, Lib.hid (mirF_ok HM.out S1 HOK.out), Lib.hid ((SameC.refl S f).mir S1 S4), hb6, zz⟩
    clear HW3 y0 y1 G02 d1 G12 GO2 ho4 gne hb4 z3 G15 GO5 ho5 hb5 ge5 hs5 hs6 G16 ho6 hb6 zz z5
    go_wp2_with fail
    clear v0 v1 v2 v3
    go_loopw [6] (fun i wr => ∃ (n : Nat) (g c2 : Nat) (d : Nat → Nat → Int), n ≤ q ∧ i = .int .i64 n ∧ wr.heap[b + 1]? = some (.cells #[.int .i64 0, .slice none 0 0] 31 (0, 0)) ∧ wr.heap[o]? = some (.cells #[.int .i64 S, .slice (some ⟨g, 0, none⟩) M c2] 31 (0, 0)) ∧ OwnS 3 56 wr (b + 2) (.slice (some ⟨g, 0, none⟩) M c2) M d ∧ g ≠ o ∧ Hid (∀ i, i < M → cellOk (d i) = true) ∧ Hid (SameC S d f) ∧ Below b w wr ∧ o + 1 ≤ wr.heap.size) (fun i _ => q - (intOf i).toNat)
    case atStart => exact st
    case round =>
      clear st
      obtain ⟨n, g, c2, d, hn, rfl, G1, GO, hown, gne, HD, HS, hb, hz⟩ := hrel
      have v0 : wr.cell? ⟨o, 0, none⟩ = some (.int .i64 S) := by rw [blk_cell GO 0]; rfl
      have v1 : wr.cell? ⟨o, 1, none⟩ = some (.slice (some ⟨g, 0, none⟩) M c2) := by rw [blk_cell GO 1]; rfl
      by_cases hlt : n < q
      · have n3 : (n : Int) < (q : Int) := by omega
        go_wp2_with fail
        refine (turnBlock_any S M (some ⟨g, 0, none⟩) c2 d _ wr HM.out S1 S4 HD.out (ownS_rowP hown HD.out) (Nat.le_refl _)).mono ?_
        rintro e w5 ⟨g5, c5, rfl, ho5, hb5⟩
        have G15 := blk_below G1 hb5 (by omega)
        have GO5 := blk_below GO hb5 (by omega)
        have ge5 := ho5.ge
        have z5 := hb5.size
        have hs6 : ((w5.setCell ⟨o, 0, none⟩ (.int .i64 S)).setCell ⟨o, 1, none⟩ (.slice (some ⟨g5, 0, none⟩) M c5)).heap[o]? = some (.cells #[.int .i64 S, .slice (some ⟨g5, 0, none⟩) M c5] 31 (0, 0)) := by simpa using (heap_setCell_same (w5.setCell ⟨o, 0, none⟩ (.int .i64 S)) o 1 _ _ (.slice (some ⟨g5, 0, none⟩) M c5) (heap_setCell_same w5 o 0 _ _ (.int .i64 S) GO5))
        have G16 := blk_set (blk_set G15 (p := ⟨o, 0, none⟩) (show b + 1 ≠ o by omega) (.int .i64 S)) (p := ⟨o, 1, none⟩) (show b + 1 ≠ o by omega) (.slice (some ⟨g5, 0, none⟩) M c5)
        have ho6 := ((ho5.setOther (p := ⟨o, 0, none⟩) (x := .int .i64 S) (fun q hq => by have := (World.ownsRow.lt ho5 q hq).1; show o ≠ q; omega)).setOther (p := ⟨o, 1, none⟩) (x := .slice (some ⟨g5, 0, none⟩) M c5) (fun q hq => by have := (World.ownsRow.lt ho5 q hq).1; show o ≠ q; omega)).base_ (show b + 2 ≤ wr.heap.size by omega)
        have hb6 := ((hb.trans (hb5.mono (by omega))).setCell (p := ⟨o, 0, none⟩) (show b ≤ o by omega) (.int .i64 S)).setCell (p := ⟨o, 1, none⟩) (show b ≤ o by omega) (.slice (some ⟨g5, 0, none⟩) M c5)
        have zz : o + 1 ≤ ((w5.setCell ⟨o, 0, none⟩ (.int .i64 S)).setCell ⟨o, 1, none⟩ (.slice (some ⟨g5, 0, none⟩) M c5)).heap.size := by simp [World.setCell]; omega
        have gne5 : g5 ≠ o := by omega
        have v0 : w5.cell? ⟨o, 0, none⟩ = some (.int .i64 S) := by rw [blk_cell GO5 0]; rfl
        have v1 : w5.cell? ⟨o, 1, none⟩ = some (.slice (some ⟨g, 0, none⟩) M c2) := by rw [blk_cell GO5 1]; rfl
        have v2 : w5.frozen? ⟨o, 0, none⟩ = false := blk_frozen GO5
        have v3 : w5.frozen? ⟨o, 1, none⟩ = false := blk_frozen GO5
        have HD5 := Lib.hid (turnF_ok HM.out S1 HD.out)
        have HS5 := Lib.hid (HS.out.turn S1 S4)
        clear G1 GO hown gne hb hz G15 GO5 ho5 hb5 ge5 z5
        go_wp2
        go_roundw
        case rel => exact ⟨n + 1, g5, c5, turnF S d, by omega, by go_num, G16, hs6, ho6, gne5, HD5, HS5, hb6, zz⟩
        case measure => simp [intOf]; omega
      · obtain rfl : n = q := by omega
        have n3 : ¬ (n : Int) < (n : Int) := by omega
        have y0 : wr.cell? ⟨b + 1, 0, none⟩ = some (.int .i64 0) := by rw [blk_cell G1 0]; rfl
        have y1 : wr.cell? ⟨b + 1, 1, none⟩ = some (.slice none 0 0) := by rw [blk_cell G1 1]; rfl
        have q0 : wr.frozen? ⟨b + 1, 0, none⟩ = false := blk_frozen G1
        have q1 : wr.frozen? ⟨b + 1, 1, none⟩ = false := blk_frozen G1
        have hne : ∀ (u : World) (i : Nat) (x : Value), OwnS 3 56 u (b + 2) (.slice (some ⟨g, 0, none⟩) M c2) M d → OwnS 3 56 (u.setCell ⟨b + 1, i, none⟩ x) (b + 2) (.slice (some ⟨g, 0, none⟩) M c2) M d := fun u i x h => h.setOther fun q hq => by have := (World.ownsRow.lt h q hq).1; show b + 1 ≠ q; omega
        have ho7 := (hne _ 1 (.slice (some ⟨g, 0, none⟩) M c2) (hne _ 0 (.int .i64 S) hown)).base_ (show b ≤ b + 2 by omega)
        have hb7 := (hb.setCell (p := ⟨b + 1, 0, none⟩) (show b ≤ b + 1 by omega) (.int .i64 S)).setCell (p := ⟨b + 1, 1, none⟩) (show b ≤ b + 1 by omega) (.slice (some ⟨g, 0, none⟩) M c2)
        clear G1 GO hown hb hne
        go_wp2
        exact bodyPost_ret (v := .agg #[.int .i64 S, .slice (some ⟨g, 0, none⟩) M c2]) (by simp [results, Try.results33, go_sem, y0, y1, q0, q1]) rfl ⟨g, c2, d, rfl, HD.out, HS.out, by rw [← HBW.out]; exact ho7, by rw [← HBW.out]; exact hb7⟩
end Go.Proofs.Ythenjmjnooaokaa
