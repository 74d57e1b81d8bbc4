/- 'append' of one struct of integers to a slice of structs of the call's own; blocks that stay as they were. -/
import Derived.Test.YthenjmjnooaokaaStrs
namespace Go.Proofs.Ythenjmjnooaokaa
open Go.ChangeShapes Go.WideShapes Go.ChangeAt Go.RowKit
/-- struct n is q, the others are as in f -/
def updS (f : Nat → Nat → Int) (n : Nat) (q : Nat → Int) : Nat → Nat → Int := fun i => if i = n then q else f i
theorem updS_eq (f : Nat → Nat → Int) (n : Nat) (q : Nat → Int) : updS f n q n = q := if_pos rfl
theorem updS_lt {f : Nat → Nat → Int} {n i : Nat} {q : Nat → Int} (h : i < n) : updS f n q i = f i := if_neg (by omega)
section
variable {ops : Array Oper} {rest : List Oper} {o : Oper} {a : Act} {Q : Exit → Act → World → Prop} {w : World}
theorem appS_shape {m t e bytes : Nat} {z : Value} (hT : Try.prog.underlying t = some (.slice e)) (hinfo : (Try.prog.info? e).map (fun i => (i.zero, i.size, i.bytes)) = some (some z, m, bytes)) (hz : z.cells.size = m) (hm : 0 < m) (hby : bytes ≤ 64)
    (hgd : o.guard = none) (s x : Operand) (ho : o.op = .call { callee := .builtin .append, args := #[s, x], argTypes := #[t, t] })
    (base n : Nat) (v : Value) (f : Nat → Nat → Int) (q : Nat → Int) (b : Nat) (hs : a.eval s = v) (hown : OwnS m e w base v n f) (hx : a.eval x = .slice (some ⟨b, 0, none⟩) 1 1)
    (cs : Array Value) (hcs : cs.toList = (List.range m).map fun j => Value.int .i64 (q j)) (hnew : w.heap[b]? = some (.cells cs e (0, 0))) (hn : n ≤ 1048576) (hbase : base ≤ w.heap.size)
    (h : ∀ A c w', OwnS m e w' base (.slice A (n + 1) c) (n + 1) (updS f n q) → Below base w w' → wpList Try.prog ops Q rest (a.put o.dst (.slice A (n + 1) c)) w') : wpList Try.prog ops Q (o :: rest) a w := by
  obtain ⟨i0, hi, hz0, hz1, hz2⟩ := info_parts hinfo
  have hlen : cs.toList.length = m := by rw [hcs]; simp
  have hby2 : (n + 1) * bytes ≤ 140737488355328 := Nat.le_trans (Nat.mul_le_mul (show n + 1 ≤ 1048577 by omega) hby) (by omega)
  refine wpList_append_own w hgd s x t ho base e i0 z m bytes hT hi hz0 hz1 hz2 hz hm v n _ hs hown ⟨b, 0, none⟩ 1 1 cs.toList hx (by rw [hlen, Nat.one_mul]) (World.news_of_block (cs := cs) hnew) ?_
    (by unfold maxLen; omega) hby2 hbase ?_
  · intro u hu
    rw [hcs, List.mem_map] at hu
    obtain ⟨j, _, rfl⟩ := hu
    rfl
  · intro v' w' h1 h2 _
    have e1 : flatS m n f ++ cs.toList = flatS m (n + 1) (updS f n q) := by
      rw [flatS_snoc _ hm, updS_eq, hcs, flatS_congr hm (f := f) (f' := updS f n q) (fun i hi j _ => by rw [updS_lt hi])]
    rw [e1] at h1
    have h3 : OwnS m e w' base v' (n + 1) (updS f n q) := h1
    obtain ⟨A, c, e2⟩ := h3.shape
    rw [e2] at h3 ⊢
    exact h A c w' h3 ((Below.refl _ _).grown h2 hbase fun k hk => (World.ownsRow.lt hown k hk).1)
theorem appS_grown {m t e bytes : Nat} {z : Value} (hT : Try.prog.underlying t = some (.slice e)) (hinfo : (Try.prog.info? e).map (fun i => (i.zero, i.size, i.bytes)) = some (some z, m, bytes)) (hz : z.cells.size = m) (hm : 0 < m) (hby : bytes ≤ 64)
    (hgd : o.guard = none) (s x : Operand) (ho : o.op = .call { callee := .builtin .append, args := #[s, x], argTypes := #[t, t] })
    (base n : Nat) (v : Value) (f : Nat → Nat → Int) (q : Nat → Int) (b : Nat) (hs : a.eval s = v) (hown : OwnS m e w base v n f) (hx : a.eval x = .slice (some ⟨b, 0, none⟩) 1 1)
    (cs : Array Value) (hcs : cs.toList = (List.range m).map fun j => Value.int .i64 (q j)) (hnew : w.heap[b]? = some (.cells cs e (0, 0))) (hn : n ≤ 1048576) (hbase : base ≤ w.heap.size)
    (h : ∀ A c w', OwnS m e w' base (.slice A (n + 1) c) (n + 1) (updS f n q) → w.grownBy w' v.ownBlock → wpList Try.prog ops Q rest (a.put o.dst (.slice A (n + 1) c)) w') : wpList Try.prog ops Q (o :: rest) a w := by
  obtain ⟨i0, hi, hz0, hz1, hz2⟩ := info_parts hinfo
  have hlen : cs.toList.length = m := by rw [hcs]; simp
  have hby2 : (n + 1) * bytes ≤ 140737488355328 := Nat.le_trans (Nat.mul_le_mul (show n + 1 ≤ 1048577 by omega) hby) (by omega)
  refine wpList_append_own w hgd s x t ho base e i0 z m bytes hT hi hz0 hz1 hz2 hz hm v n _ hs hown ⟨b, 0, none⟩ 1 1 cs.toList hx (by rw [hlen, Nat.one_mul]) (World.news_of_block (cs := cs) hnew) ?_
    (by unfold maxLen; omega) hby2 hbase ?_
  · intro u hu
    rw [hcs, List.mem_map] at hu
    obtain ⟨j, _, rfl⟩ := hu
    rfl
  · intro v' w' h1 h2 _
    have e1 : flatS m n f ++ cs.toList = flatS m (n + 1) (updS f n q) := by
      rw [flatS_snoc _ hm, updS_eq, hcs, flatS_congr hm (f := f) (f' := updS f n q) (fun i hi j _ => by rw [updS_lt hi])]
    rw [e1] at h1
    have h3 : OwnS m e w' base v' (n + 1) (updS f n q) := h1
    obtain ⟨A, c, e2⟩ := h3.shape
    rw [e2] at h3 ⊢
    exact h A c w' h3 h2
end
theorem ownS_grown {m e : Nat} {w w' : World} {b base n : Nat} {v : Value} {f : Nat → Nat → Int} (h : OwnS m e w base v n f) (hg : w.grownBy w' (some b)) (hb : b < base) : OwnS m e w' base v n f :=
  row_keep h fun k hk => hg.block k (World.ownsRow.lt h k hk).2 (by have := (World.ownsRow.lt h k hk).1; simp; omega)
/-- a block that is known whole -/
theorem blk_lt {w : World} {g : Nat} {o : Obj} (h : w.heap[g]? = some o) : g < w.heap.size := (Array.getElem?_eq_some_iff.1 h).1
theorem blk_grown {w w' : World} {b g : Nat} {o : Obj} (h : w.heap[g]? = some o) (hg : w.grownBy w' (some b)) (hne : g ≠ b) : w'.heap[g]? = some o :=
  (hg.block g (blk_lt h) (by simpa using hne)).trans h
theorem blk_alloc {w : World} {g : Nat} {o : Obj} (h : w.heap[g]? = some o) (p : Obj) : (w.alloc p).heap[g]? = some o := (Below.heap_alloc w p g (blk_lt h)).trans h
theorem blk_below {w w' : World} {B g : Nat} {o : Obj} (h : w.heap[g]? = some o) (hb : Below B w w') (hg : g < B) : w'.heap[g]? = some o := (hb.block g hg).trans h
theorem blk_set {w : World} {g : Nat} {o : Obj} (h : w.heap[g]? = some o) {p : Addr} (hne : g ≠ p.block) (x : Value) : (w.setCell p x).heap[g]? = some o := (Below.heap_setCell w p x g hne).trans h
theorem blk_frozen {w : World} {g j : Nat} {cs : Array Value} {t : TypeId} (h : w.heap[g]? = some (.cells cs t (0, 0))) : w.frozen? ⟨g, j, none⟩ = false := by
  simp [World.frozen?, h]
theorem blk_cell {w : World} {g : Nat} {cs : Array Value} {t : TypeId} (h : w.heap[g]? = some (.cells cs t (0, 0))) (j : Nat) : w.cell? ⟨g, j, none⟩ = cs[j]? := cell_of_row w g j cs t (0, 0) h
theorem grown_alloc {a w : World} {row : Option Nat} (h : a.grownBy w row) (o : Obj) : a.grownBy (w.alloc o) row :=
  ⟨h.os, h.tape, h.output, Nat.le_trans h.size (by simp), fun i hi hne => (Below.heap_alloc w o i (Nat.lt_of_lt_of_le hi h.size)).trans (h.block i hi hne)⟩
theorem grown_set {a w : World} {row : Option Nat} (h : a.grownBy w row) {p : Addr} (hp : a.heap.size ≤ p.block) (x : Value) : a.grownBy (w.setCell p x) row :=
  ⟨h.os, h.tape, h.output, by simpa [World.setCell] using h.size, fun i hi hne => (Below.heap_setCell w p x i (by omega)).trans (h.block i hi hne)⟩
end Go.Proofs.Ythenjmjnooaokaa
