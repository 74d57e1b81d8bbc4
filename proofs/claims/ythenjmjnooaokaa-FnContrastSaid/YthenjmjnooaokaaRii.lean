/- Slices of slices of integers that the call itself made. -/
import Derived.Test.YthenjmjnooaokaaOnly
namespace Go.Proofs.Ythenjmjnooaokaa
open Go.ChangeShapes Go.WideShapes Go.ChangeAt Go.RowKit
def upd (z : Nat → List Int) (i : Nat) (y : List Int) : Nat → List Int := fun j => if j = i then y else z j
/-- A slice of slices of integers that the call itself made: all its blocks lie from base to H, no two rows share one. -/
def OwnII (w : World) (base H : Nat) (v : Value) (n : Nat) (z : Nat → List Int) : Prop :=
  ∃ V : Nat → Value, w.ownsRow base 44 1 v n ((List.range n).map V) ∧ (∀ k, v.ownBlock = some k → k < H) ∧ (∀ i, i < n → OwnI w base (V i) (z i) ∧ ∀ k, (V i).ownBlock = some k → k < H) ∧
    ∀ i j k, i < n → j < n → (V i).ownBlock = some k → (V j).ownBlock = some k → i = j
theorem info_row : (Try.prog.info? 44).map (fun i => (i.zero, i.size, i.bytes)) = some (some (.slice none 0 0), 1, 24) := by kernel_rfl
section
variable {w w' : World} {base H n c : Nat} {v : Value} {A : Option Addr} {z : Nat → List Int}
theorem OwnII.congr {z' : Nat → List Int} (h : OwnII w base H v n z) (e : ∀ i, i < n → z i = z' i) : OwnII w base H v n z' := by
  obtain ⟨V, h1, h2, h3, h4⟩ := h
  exact ⟨V, h1, h2, fun i hi => by rw [← e i hi]; exact h3 i hi, h4⟩
theorem ownII_nil (w : World) (base H : Nat) (z : Nat → List Int) : OwnII w base H (.slice none 0 0) 0 z :=
  ⟨fun _ => .slice none 0 0, World.ownsRow_nil w base _ _, (fun k hk => by cases hk), (fun i hi => by omega), fun i _ _ hi => by omega⟩
theorem ownII_empty (w : World) (z : Nat → List Int) : OwnII (w.alloc (.cells #[] 44)) w.heap.size (w.heap.size + 1) (.slice (some ⟨w.heap.size, 0, none⟩) 0 0) 0 z :=
  ⟨fun _ => .slice none 0 0, World.ownsRow_lit w #[] 0 (Nat.le_refl _) (Nat.zero_le _) rfl, (fun k hk => by simp [Value.ownBlock] at hk; omega), (fun i hi => by omega), fun i _ _ hi => by omega⟩
theorem OwnII.more {H' : Nat} (h : OwnII w base H v n z) (hH : H ≤ H') : OwnII w base H' v n z := by
  obtain ⟨V, h1, h2, h3, h4⟩ := h
  exact ⟨V, h1, fun k hk => Nat.lt_of_lt_of_le (h2 k hk) hH, fun i hi => ⟨(h3 i hi).1, fun k hk => Nat.lt_of_lt_of_le ((h3 i hi).2 k hk) hH⟩, h4⟩
theorem OwnII.down {base' : Nat} (h : OwnII w base H v n z) (hb : base' ≤ base) : OwnII w base' H v n z := by
  obtain ⟨V, h1, h2, h3, h4⟩ := h
  refine ⟨V, ⟨h1.1, ?_⟩, h2, fun i hi => ⟨(h3 i hi).1.base hb, (h3 i hi).2⟩, h4⟩
  rcases h1.2 with hn | ⟨g, cap, cur, hv, hbb, rest⟩
  · exact .inl hn
  · exact .inr ⟨g, cap, cur, hv, by omega, rest⟩
theorem OwnII.same (h : OwnII w base H v n z) (hb : ∀ k, k < w.heap.size → base ≤ k → k < H → w'.heap[k]? = w.heap[k]?) : OwnII w' base H v n z := by
  obtain ⟨V, h1, h2, h3, h4⟩ := h
  refine ⟨V, row_keep h1 fun k hk => hb k (World.ownsRow.lt h1 k hk).2 (World.ownsRow.lt h1 k hk).1 (h2 k hk), h2, fun i hi => ⟨?_, (h3 i hi).2⟩, h4⟩
  exact row_keep (h3 i hi).1 fun k hk => hb k (World.ownsRow.lt (h3 i hi).1 k hk).2 (World.ownsRow.lt (h3 i hi).1 k hk).1 ((h3 i hi).2 k hk)
theorem OwnII.keep (h : OwnII w base H v n z) (hb : Below w.heap.size w w') : OwnII w' base H v n z := h.same fun k hk _ _ => hb.block k hk
theorem ownII_alloc (h : OwnII w base H v n z) (o : Obj) : OwnII (w.alloc o) base H v n z := h.same fun k hk _ _ => Below.heap_alloc w o k hk
theorem ownII_drew (h : OwnII w base H v n z) : OwnII w.drew base H v n z := h
theorem OwnII.only {lo hi : Nat} (h : OwnII w base H v n z) (ho : OnlyIn lo hi w w') (hne : H ≤ lo ∨ hi ≤ base) : OwnII w' base H v n z := h.same fun k hk h1 h2 => ho.block k hk (by omega)
theorem OwnII.shape (h : OwnII w base H v n z) : ∃ A c, v = .slice A n c := by
  obtain ⟨V, h1, _⟩ := h
  rcases h1.2 with ⟨h', hn⟩ | ⟨g', cap', cur, h', _⟩
  · exact ⟨none, 0, by rw [hn]; exact h'⟩
  · exact ⟨_, _, h'⟩
theorem OwnII.at_ (h : OwnII w base H (.slice A n c) n z) {i : Nat} (hi : i < n) : ∃ g Ai ci, A = some ⟨g, 0, none⟩ ∧ base ≤ g ∧ g < H ∧ g < w.heap.size ∧ w.cell? ⟨g, i, none⟩ = some (.slice Ai (z i).length ci) ∧ w.frozen? ⟨g, i, none⟩ = false ∧
    OwnI w base (.slice Ai (z i).length ci) (z i) ∧ (∀ k, blk Ai = some k → base ≤ k ∧ k < H ∧ k < w.heap.size) ∧
    ∀ w' y, w.grownBy w' (blk Ai) → OwnI w' base (.slice Ai (z i).length ci) y → OwnII w' base H (.slice A n c) n (upd z i y) := by
  obtain ⟨V, h1, h2, h3, h4⟩ := h
  obtain ⟨ho, hoH⟩ := h3 i hi
  obtain ⟨Ai, ci, hV⟩ := ho.shape
  have hlt := World.ownsRow.lt h1
  rcases h1.2 with ⟨h', hn⟩ | ⟨g, cap, cur, h', hbg, hgg, _⟩
  · omega
  · simp only [Value.slice.injEq] at h'
    obtain ⟨rfl, _, rfl⟩ := h'
    obtain ⟨l1, l2⟩ := hlt g rfl
    have hblk : ∀ k, blk Ai = some k → (V i).ownBlock = some k := by
      intro k hk
      rw [hV]
      cases Ai with
      | none => cases hk
      | some a => exact hk
    refine ⟨g, Ai, ci, rfl, l1, h2 g rfl, l2, ?_, World.ownsRow.frozenAt h1 i, hV ▸ ho, fun k hk => ?_, ?_⟩
    · rw [World.ownsRow.cellAt h1 i (by omega), List.getElem?_map, List.getElem?_range hi, ← hV]
      rfl
    · have hk' := hblk k hk
      exact ⟨(World.ownsRow.lt ho k hk').1, hoH k hk', (World.ownsRow.lt ho k hk').2⟩
    · intro w' y hg hy
      have far : ∀ (k : Nat), k < w.heap.size → (∀ (_ : (V i).ownBlock = some k), False) → w'.heap[k]? = w.heap[k]? := by
        intro k hk hne
        exact hg.block k hk fun e => hne (hblk k e.symm)
      refine ⟨V, row_keep h1 fun k hk => far k (hlt k hk).2 fun hk' => rows_apart h1 ho (by decide) hk hk', h2, fun j hj => ?_, h4⟩
      by_cases e : j = i
      · subst e
        simp only [upd, if_true]
        rw [hV]
        exact ⟨hy, by rw [← hV]; exact hoH⟩
      · simp only [upd, e, if_false]
        exact ⟨row_keep (h3 j hj).1 fun k hk => far k (World.ownsRow.lt (h3 j hj).1 k hk).2 fun hk' => e (h4 j i k hj hi hk hk'), (h3 j hj).2⟩
theorem OwnII.rowII (h : OwnII w base H (.slice A n c) n z) (hw : ∀ i, i < n → ∀ x ∈ z i, (Lit.int .i64 x).wf = true) : RowII w w.heap.size A n c z := by
  have hcap : n ≤ c ∧ c ≤ maxLen := by
    obtain ⟨V, h1, _⟩ := h
    rcases h1.2 with ⟨h', hn⟩ | ⟨g, cap, cur, h', _, _, hnc, hcm, _⟩
    · simp only [Value.slice.injEq] at h'
      rw [h'.2.2, hn]
      exact ⟨Nat.le_refl _, Nat.zero_le _⟩
    · simp only [Value.slice.injEq] at h'
      rw [h'.2.2]
      exact ⟨hnc, hcm⟩
  refine ⟨hcap.1, hcap.2, fun hn => ?_⟩
  obtain ⟨g, _, _, rfl, _, _, hlt, _⟩ := h.at_ hn
  refine ⟨g, 0, rfl, hlt, fun i hi => ?_⟩
  obtain ⟨g', Ai, ci, e, _, _, _, hc, _, ho, _⟩ := h.at_ hi
  simp only [Option.some.injEq, Addr.mk.injEq, and_true] at e
  subst e
  refine ⟨Ai, ci, by rw [Nat.zero_add]; exact hc, ho.rowI (hw i hi)⟩
/-- a row is stored -/
theorem OwnII.store {g : Nat} {v1 : Value} {y : List Int} (h : OwnII w base H (.slice (some ⟨g, 0, none⟩) n c) n z) {i : Nat} (hi : i < n) (ho : OwnI w H v1 y) (hH : base ≤ H) (hH' : H ≤ w.heap.size) :
    OwnII (w.setCell ⟨g, i, none⟩ v1) base w.heap.size (.slice (some ⟨g, 0, none⟩) n c) n (upd z i y) := by
  obtain ⟨V, h1, h2, h3, h4⟩ := h
  have hg := h2 g rfl
  have keepI : ∀ {b : Nat} {u : Value} {xs : List Int}, OwnI w b u xs → OwnI (w.setCell ⟨g, i, none⟩ v1) b u xs := by
    intro b u xs hu
    refine row_keep hu fun k hk => ?_
    exact Below.heap_setCell w ⟨g, i, none⟩ v1 k fun e => by subst e; exact rows_apart h1 hu (by decide) rfl hk
  refine ⟨fun j => if j = i then v1 else V j, ?_, fun k hk => Nat.lt_of_lt_of_le (h2 k hk) hH', fun j hj => ?_, fun j l k hj hl kj kl => ?_⟩
  · have e : (List.range n).map (fun j => if j = i then v1 else V j) = ((List.range n).map V).set i v1 := by
      apply List.ext_getElem?
      intro j
      by_cases hj : j < n
      · by_cases e : j = i
        · subst e; simp [hj]
        · rw [List.getElem?_set_ne (Ne.symm e)]; simp [hj, e]
      · simp [hj]
    rw [e]
    exact (World.ownsRow.stored h1 i v1).1
  · by_cases e : j = i
    · subst e
      simp only [upd, if_true]
      exact ⟨keepI (ho.base hH), fun k hk => (World.ownsRow.lt ho k hk).2⟩
    · simp only [upd, e, if_false]
      exact ⟨keepI (h3 j hj).1, fun k hk => Nat.lt_of_lt_of_le ((h3 j hj).2 k hk) hH'⟩
  · by_cases ej : j = i <;> by_cases el : l = i
    · rw [ej, el]
    · simp only [ej, el, if_true, if_false] at kj kl
      have := (World.ownsRow.lt ho k kj).1
      have := (h3 l hl).2 k kl
      omega
    · simp only [ej, el, if_true, if_false] at kj kl
      have := (World.ownsRow.lt ho k kl).1
      have := (h3 j hj).2 k kj
      omega
    · simp only [ej, el, if_false] at kj kl
      exact h4 j l k hj hl kj kl
/-- a row is appended -/
theorem ownII_snoc {v1 v2 : Value} (h : OwnII w base H v n z) (ho : OwnI w H v1 (z n)) (hH : base ≤ H) (hw : w'.ownsRow base 44 1 v2 (n + 1) (((List.range n).map (fun i => (h.choose i))) ++ [v1])) (hg : w.grownBy w' v.ownBlock) :
    OwnII w' base w'.heap.size v2 (n + 1) z := by
  obtain ⟨h1, h2, h3, h4⟩ := h.choose_spec
  have keepI : ∀ {b : Nat} {u : Value} {xs : List Int}, OwnI w b u xs → OwnI w' b u xs := by
    intro b u xs hu
    refine row_keep hu fun k hk => hg.block k (World.ownsRow.lt hu k hk).2 fun e => rows_apart h1 hu (by decide) e.symm hk
  refine ⟨fun j => if j = n then v1 else h.choose j, ?_, fun k hk => (World.ownsRow.lt hw k hk).2, fun j hj => ?_, fun j l k hj hl kj kl => ?_⟩
  · have e : (List.range (n + 1)).map (fun j => if j = n then v1 else h.choose j) = (List.range n).map (fun i => h.choose i) ++ [v1] := by
      rw [List.range_succ, List.map_append]
      congr 1
      · refine List.map_congr_left fun i hi => ?_
        have := List.mem_range.1 hi
        rw [if_neg (by omega)]
      · simp
    rw [e]
    exact hw
  · by_cases e : j = n
    · subst e
      simp only [if_true]
      have := keepI (ho.base hH)
      exact ⟨this, fun k hk => (World.ownsRow.lt this k hk).2⟩
    · simp only [e, if_false]
      have := keepI (h3 j (by omega)).1
      exact ⟨this, fun k hk => (World.ownsRow.lt this k hk).2⟩
  · by_cases ej : j = n <;> by_cases el : l = n
    · rw [ej, el]
    · simp only [ej, el, if_true, if_false] at kj kl
      have := (World.ownsRow.lt ho k kj).1
      have := (h3 l (by omega)).2 k kl
      omega
    · simp only [ej, el, if_true, if_false] at kj kl
      have := (World.ownsRow.lt ho k kl).1
      have := (h3 j (by omega)).2 k kj
      omega
    · simp only [ej, el, if_false] at kj kl
      exact h4 j l k (by omega) (by omega) kj kl
end
section
variable {ops : Array Oper} {rest : List Oper} {o : Oper} {a : Act} {Q : Exit → Act → World → Prop} {K : Act → World → Prop} {E : Prop} {w : World}
theorem one_slice {A : Option Addr} {n c : Nat} : (Value.slice A n c).oneCell' = true := rfl
theorem appII_plain (hgd : o.guard = none) (s x : Operand) (ho : o.op = .call { callee := .builtin .append, args := #[s, x], argTypes := #[85, 85] })
    (base H n : Nat) (v v1 : Value) (z : Nat → List Int) (b : Nat) (hs : a.eval s = v) (hown : OwnII w base H v n z) (hrow : OwnI w H v1 (z n)) (hH : base ≤ H) (hx : a.eval x = .slice (some ⟨b, 0, none⟩) 1 1)
    (hnew : w.heap[b]? = some (.cells #[v1] 44 (0, 0))) (hn : n ≤ 1073741824) (hbase : base ≤ w.heap.size)
    (h : ∀ v' w', OwnII w' base w'.heap.size v' (n + 1) z → Below base w w' → wpList Try.prog ops Q rest (a.put o.dst v') w') : wpList Try.prog ops Q (o :: rest) a w := by
  obtain ⟨i0, hi, hz0, hz1, hz2⟩ := info_parts info_row
  obtain ⟨h1, h2, h3, h4⟩ := hown.choose_spec
  refine wpList_append_own w hgd s x 85 ho base 44 i0 _ 1 24 Try.underlying85 hi hz0 hz1 hz2 rfl (by decide) v n _ hs h1 ⟨b, 0, none⟩ 1 1 [v1] hx rfl (World.news_of_block (cs := #[v1]) hnew) ?_
    (by unfold maxLen; omega) (by omega) hbase ?_
  · intro u hu
    obtain ⟨A, c, e⟩ := hrow.shape
    simp only [List.mem_singleton] at hu
    rw [hu, e]
    rfl
  · intro v' w' g1 g2 _
    exact h v' w' (ownII_snoc hown hrow hH g1 g2) ((Below.refl _ _).grown g2 hbase fun k hk => (World.ownsRow.lt h1 k hk).1)
theorem appII_drawn (hgd : o.guard = none) (s x : Operand) (ho : o.op = .call { callee := .builtin .append, args := #[s, x], argTypes := #[85, 85] })
    (base H n : Nat) (v v1 : Value) (z : Nat → List Int) (b : Nat) (hs : a.eval s = v) (hown : OwnII w base H v n z) (hrow : OwnI w H v1 (z n)) (hH : base ≤ H) (hx : a.eval x = .slice (some ⟨b, 0, none⟩) 1 1)
    (hnew : w.heap[b]? = some (.cells #[v1] 44 (0, 0))) (hn : n ≤ 1073741824) (hbase : base ≤ w.heap.size)
    (h : ∀ v' w', OwnII w' base w'.heap.size v' (n + 1) z → Below base w w' → K (a.put o.dst v') w') : if Region.wanted o (yielded ops a.tmps) = true then Oper.wp Try.prog o a w K Q else E := by
  have hw : Region.wanted o (yielded ops a.tmps) = true := by simp [Region.wanted, hgd]
  rw [if_pos hw]
  obtain ⟨i0, hi, hz0, hz1, hz2⟩ := info_parts info_row
  obtain ⟨h1, h2, h3, h4⟩ := hown.choose_spec
  refine wp_append_own w s x 85 ho base 44 i0 _ 1 24 Try.underlying85 hi hz0 hz1 hz2 rfl (by decide) v n _ hs h1 ⟨b, 0, none⟩ 1 1 [v1] hx rfl (World.news_of_block (cs := #[v1]) hnew) ?_
    (by unfold maxLen; omega) (by omega) hbase ?_
  · intro u hu
    obtain ⟨A, c, e⟩ := hrow.shape
    simp only [List.mem_singleton] at hu
    rw [hu, e]
    rfl
  · intro v' w' g1 g2 _
    exact h v' w' (ownII_snoc hown hrow hH g1 g2) ((Below.refl _ _).grown g2 hbase fun k hk => (World.ownsRow.lt h1 k hk).1)
end
end Go.Proofs.Ythenjmjnooaokaa
