/- 'append' of one integer to a slice of the call's own: in a plain region and in one that draws its order. -/
import Derived.Test.YthenjmjnooaokaaInts
import Derived.Deep.AppendLies
import Derived.Deep.RegionHeld3
namespace Go.Proofs.Ythenjmjnooaokaa
open Go.ChangeShapes Go.WideShapes Go.ChangeAt Go.RowKit
section
variable {ops : Array Oper} {rest : List Oper} {o : Oper} {a : Act} {Q : Exit → Act → World → Prop} {K : Act → World → Prop} {E : Prop} {w : World}
theorem own_below {base : Nat} {v : Value} {zs : List Int} {w' : World} (hown : OwnI w base v zs) (hbase : base ≤ w.heap.size) (hg : w.grownBy w' v.ownBlock) : Below base w w' :=
  (Below.refl _ _).grown hg hbase fun k hk => (World.ownsRow.lt hown k hk).1
/-- in a plain region -/
theorem app_plain (hgd : o.guard = none) (s x : Operand) (ho : o.op = .call { callee := .builtin .append, args := #[s, x], argTypes := #[44, 44] })
    (base : Nat) (v : Value) (zs : List Int) (q : Int) (b : Nat) (hs : a.eval s = v) (hown : OwnI w base v zs) (hx : a.eval x = .slice (some ⟨b, 0, none⟩) 1 1)
    (hnew : w.heap[b]? = some (.cells #[.int .i64 q] 3 (0, 0))) (hn : zs.length ≤ 1073741824) (hbase : base ≤ w.heap.size)
    (h : ∀ v' w', OwnI w' base v' (zs ++ [q]) → Below base w w' → wpList Try.prog ops Q rest (a.put o.dst v') w') : wpList Try.prog ops Q (o :: rest) a w := by
  obtain ⟨i0, hi, hz0, hz1, hz2⟩ := info_parts info_int
  refine wpList_append_own w hgd s x 44 ho base 3 i0 _ 1 8 Try.underlying44 hi hz0 hz1 hz2 rfl (by decide) v zs.length _ hs hown ⟨b, 0, none⟩ 1 1 [.int .i64 q] hx rfl (World.news_of_block (cs := #[.int .i64 q]) hnew) (by simp [Value.oneCell'])
    (by unfold maxLen; omega) (by omega) hbase ?_
  intro v' w' h1 h2 _
  refine h v' w' ?_ (own_below hown hbase h2)
  unfold OwnI
  rw [List.length_append, List.map_append]
  exact h1
/-- at a step of a region that draws its order -/
theorem app_drawn (hgd : o.guard = none) (s x : Operand) (ho : o.op = .call { callee := .builtin .append, args := #[s, x], argTypes := #[44, 44] })
    (base : Nat) (v : Value) (zs : List Int) (q : Int) (b : Nat) (hs : a.eval s = v) (hown : OwnI w base v zs) (hx : a.eval x = .slice (some ⟨b, 0, none⟩) 1 1)
    (hnew : w.heap[b]? = some (.cells #[.int .i64 q] 3 (0, 0))) (hn : zs.length ≤ 1073741824) (hbase : base ≤ w.heap.size)
    (h : ∀ v' w', OwnI w' base v' (zs ++ [q]) → Below base w w' → K (a.put o.dst v') w') :
    if Region.wanted o (yielded ops a.tmps) = true then Oper.wp Try.prog o a w K Q else E := by
  have hw : Region.wanted o (yielded ops a.tmps) = true := by simp [Region.wanted, hgd]
  rw [if_pos hw]
  obtain ⟨i0, hi, hz0, hz1, hz2⟩ := info_parts info_int
  refine wp_append_own w s x 44 ho base 3 i0 _ 1 8 Try.underlying44 hi hz0 hz1 hz2 rfl (by decide) v zs.length _ hs hown ⟨b, 0, none⟩ 1 1 [.int .i64 q] hx rfl (World.news_of_block (cs := #[.int .i64 q]) hnew) (by simp [Value.oneCell'])
    (by unfold maxLen; omega) (by omega) hbase ?_
  intro v' w' h1 h2 _
  refine h v' w' ?_ (own_below hown hbase h2)
  unfold OwnI
  rw [List.length_append, List.map_append]
  exact h1
end
theorem OwnI.alloc {w : World} {base : Nat} {v : Value} {zs : List Int} (h : OwnI w base v zs) (o : Obj) : OwnI (w.alloc o) base v zs := World.ownsRow.alloc h o
theorem OwnI.drew {w : World} {base : Nat} {v : Value} {zs : List Int} (h : OwnI w base v zs) : OwnI w.drew base v zs := h
theorem OwnI.shape {w : World} {base : Nat} {v : Value} {zs : List Int} (h : OwnI w base v zs) : ∃ A c, v = .slice A zs.length c := by
  rcases h.2 with ⟨h', hn⟩ | ⟨g', cap', cur, h', _⟩
  · exact ⟨none, 0, by rw [hn]; exact h'⟩
  · exact ⟨_, _, h'⟩
theorem own_empty (w : World) : OwnI (w.alloc (.cells #[] 3)) w.heap.size (.slice (some ⟨w.heap.size, 0, none⟩) 0 0) [] :=
  World.ownsRow_lit w #[] 0 (Nat.le_refl _) (Nat.zero_le _) rfl
theorem own_nil (w : World) (base : Nat) : OwnI w base (.slice none 0 0) [] := World.ownsRow_nil w base _ _
section
variable {ops : Array Oper} {rest : List Oper} {o : Oper} {a : Act} {Q : Exit → Act → World → Prop} {K : Act → World → Prop} {E : Prop} {w : World}
/-- in a plain region, the new value's shape told -/
theorem app_shape (hgd : o.guard = none) (s x : Operand) (ho : o.op = .call { callee := .builtin .append, args := #[s, x], argTypes := #[44, 44] })
    (base : Nat) (v : Value) (zs : List Int) (q : Int) (b n : Nat) (hz : zs.length = n) (hs : a.eval s = v) (hown : OwnI w base v zs) (hx : a.eval x = .slice (some ⟨b, 0, none⟩) 1 1)
    (hnew : w.heap[b]? = some (.cells #[.int .i64 q] 3 (0, 0))) (hn : zs.length ≤ 1073741824) (hbase : base ≤ w.heap.size)
    (h : ∀ A c w', OwnI w' base (.slice A (n + 1) c) (zs ++ [q]) → Below base w w' → wpList Try.prog ops Q rest (a.put o.dst (.slice A (n + 1) c)) w') : wpList Try.prog ops Q (o :: rest) a w := by
  refine app_plain hgd s x ho base v zs q b hs hown hx hnew hn hbase ?_
  intro v' w' h1 h2
  obtain ⟨A, c, e⟩ := h1.shape
  rw [List.length_append, hz] at e
  rw [e] at h1 ⊢
  exact h A c w' h1 h2
theorem app_shape_drawn (hgd : o.guard = none) (s x : Operand) (ho : o.op = .call { callee := .builtin .append, args := #[s, x], argTypes := #[44, 44] })
    (base : Nat) (v : Value) (zs : List Int) (q : Int) (b n : Nat) (hz : zs.length = n) (hs : a.eval s = v) (hown : OwnI w base v zs) (hx : a.eval x = .slice (some ⟨b, 0, none⟩) 1 1)
    (hnew : w.heap[b]? = some (.cells #[.int .i64 q] 3 (0, 0))) (hn : zs.length ≤ 1073741824) (hbase : base ≤ w.heap.size)
    (h : ∀ A c w', OwnI w' base (.slice A (n + 1) c) (zs ++ [q]) → Below base w w' → K (a.put o.dst (.slice A (n + 1) c)) w') : if Region.wanted o (yielded ops a.tmps) = true then Oper.wp Try.prog o a w K Q else E := by
  refine app_drawn hgd s x ho base v zs q b hs hown hx hnew hn hbase ?_
  intro v' w' h1 h2
  obtain ⟨A, c, e⟩ := h1.shape
  rw [List.length_append, hz] at e
  rw [e] at h1 ⊢
  exact h A c w' h1 h2
end
end Go.Proofs.Ythenjmjnooaokaa
