/- The drawing cursor beside what the call itself has made; l01Once. -/
import Derived.Test.YthenjmjnooaokaaCur
import Derived.Test.YthenjmjnooaokaaOnly
namespace Go.Proofs.Ythenjmjnooaokaa
open Go.ChangeShapes Go.WideShapes Go.ChangeAt Go.RowKit
theorem grown_below {w w' : World} {b B : Nat} (hg : w.grownBy w' (some b)) (hB : B ≤ b) (hw : B ≤ w.heap.size) : Below B w w' :=
  (Below.refl _ _).grown hg hw fun k hk => by simp at hk; omega
theorem cur_below {w w' : World} {b B n c : Nat} {A : Option Addr} (h : CurAt w b A n c) (hb : Below B w w') (hB : b < B) : CurAt w' b A n c := by
  obtain ⟨i, x, hi, hh⟩ := h
  exact ⟨i, x, hi, by rw [hb.block b hB]; exact hh⟩
theorem ownI_grown {w w' : World} {b base : Nat} {v : Value} {zs : List Int} (h : OwnI w base v zs) (hg : w.grownBy w' (some b)) (hb : b < base) : OwnI w' base v zs :=
  row_keep h fun k hk => hg.block k (World.ownsRow.lt h k hk).2 (by have := (World.ownsRow.lt h k hk).1; simp; omega)
theorem once_any (k b : Nat) (A : Option Addr) (n c : Nat) (zs : List Int) (B : Nat) (w : World) (hr : RowI .u8 w B A n c zs) (hB : B ≤ b) (hcb : B ≤ w.heap.size) (hn : n ≤ 1048576) (hc : CurAt w b A n c) (k1 : 1 ≤ k) (k2 : k ≤ 256) :
    Calls Try.prog 105 #[.pointer (some ⟨b, 0, none⟩), .int .i64 k] w fun e w' => ∃ t : Bool, e = .returned (.bool t) ∧ CurAt w' b A n c ∧ w.grownBy w' (some b) := by
  go_enter Try.func105, Try.ntmps105
  go_wp2_with fail
  refine (below_any k b A n c zs B w hr hB hcb hn hc k1 k2).mono ?_
  rintro e w' ⟨v, hv, rfl, hc', hg⟩
  go_wp2
  go_ret
  exact ⟨_, rfl, hc', hg⟩
end Go.Proofs.Ythenjmjnooaokaa
