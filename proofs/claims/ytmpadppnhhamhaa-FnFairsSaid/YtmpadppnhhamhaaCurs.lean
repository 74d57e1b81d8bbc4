/- The drawing cursor beside what the call itself has made; l01Once. -/
import Derived.Test.YtmpadppnhhamhaaCur
import Derived.Test.YtmpadppnhhamhaaRii2
namespace Go.Proofs.Ytmpadppnhhamhaa
open Go.ChangeShapes Go.WideShapes Go.ChangeAt Go.RowKit
theorem grown_below {w w' : World} {b B : Nat} (hg : w.grownBy w' (some b)) (hB : B ≤ b) (hw : B ≤ w.heap.size) : Below B w w' :=
  (Below.refl _ _).grown hg hw fun k hk => by simp at hk; omega
theorem cur_below {w w' : World} {b B n c : Nat} {A : Option Addr} (h : CurAt w b A n c) (hb : Below B w w') (hB : b < B) : CurAt w' b A n c := by
  obtain ⟨i, x, hi, hh⟩ := h
  exact ⟨i, x, hi, by rw [hb.block b hB]; exact hh⟩
theorem rowsII_grown {w w' : World} {b base H n : Nat} {v : Value} {z : Nat → List Int} (h : OwnII w base H v n z) (hg : w.grownBy w' (some b)) (hb : b < base) : OwnII w' base H v n z :=
  h.same fun k hk h1 _ => hg.block k hk (by simp; omega)
theorem rowsII_below {w w' : World} {B base H n : Nat} {v : Value} {z : Nat → List Int} (h : OwnII w base H v n z) (hb : Below B w w') (hB : H ≤ B) : OwnII w' base H v n z :=
  h.same fun k hk _ h2 => hb.block k (by omega)
theorem ownI_grown {w w' : World} {b base : Nat} {v : Value} {zs : List Int} (h : OwnI w base v zs) (hg : w.grownBy w' (some b)) (hb : b < base) : OwnI w' base v zs :=
  row_keep h fun k hk => hg.block k (World.ownsRow.lt h k hk).2 (by have := (World.ownsRow.lt h k hk).1; simp; omega)
section
variable {ops : Array Oper} {rest : List Oper} {o : Oper} {a : Act} {Q : Exit → Act → World → Prop} {w : World}
/-- a row is appended, the new value's shape told -/
theorem appII_shape (hgd : o.guard = none) (s x : Operand) (ho : o.op = .call { callee := .builtin .append, args := #[s, x], argTypes := #[22, 22] })
    (base H n : Nat) (v v1 : Value) (z : Nat → List Int) (b : Nat) (hs : a.eval s = v) (hown : OwnII w base H v n z) (hrow : OwnI w H v1 (z n)) (hH : base ≤ H) (hx : a.eval x = .slice (some ⟨b, 0, none⟩) 1 1)
    (hnew : w.heap[b]? = some (.cells #[v1] 28 (0, 0))) (hn : n ≤ 1073741824) (hbase : base ≤ w.heap.size)
    (h : ∀ A c w', OwnII w' base w'.heap.size (.slice A (n + 1) c) (n + 1) z → Below base w w' → wpList Try.prog ops Q rest (a.put o.dst (.slice A (n + 1) c)) w') : wpList Try.prog ops Q (o :: rest) a w := by
  refine appII_plain hgd s x ho base H n v v1 z b hs hown hrow hH hx hnew hn hbase ?_
  intro v' w' h1 h2
  obtain ⟨A, c, e⟩ := h1.shape
  rw [e] at h1 ⊢
  exact h A c w' h1 h2
end
end Go.Proofs.Ytmpadppnhhamhaa
