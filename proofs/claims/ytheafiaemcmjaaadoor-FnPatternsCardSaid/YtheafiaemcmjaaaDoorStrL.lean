/- Slices of strings that the call itself made: append, strings.Join. -/
import Derived.Test.YtheafiaemcmjaaaDoorStrs
import Derived.Test.YtheafiaemcmjaaaDoorPureTx
import Derived.Test.YtheafiaemcmjaaaDoorShelf
namespace Go.Proofs.YtheafiaemcmjaaaDoor
open Go.ChangeShapes Go.WideShapes Go.ChangeAt Go.RowKit
def strV (l : List UInt8) : Value := .string (strB l)
def OwnT (w : World) (base : Nat) (v : Value) (xs : List (List UInt8)) : Prop := w.ownsRow base 9 1 v xs.length (xs.map strV)
theorem info_string : (Tryd.prog.info? 9).map (fun i => (i.zero, i.size, i.bytes)) = some (some (.string ⟨#[]⟩), 1, 16) := by kernel_rfl
theorem OwnT.cellAt {w : World} {base g n c : Nat} {xs : List (List UInt8)} (h : OwnT w base (.slice (some ⟨g, 0, none⟩) n c) xs) {j : Nat} {x : List UInt8} (hj : xs[j]? = some x) : w.cell? ⟨g, j, none⟩ = some (strV x) := by
  obtain ⟨h1, h2⟩ := h
  have hjl := (List.getElem?_eq_some_iff.1 hj).1
  rcases h2 with ⟨h', _⟩ | ⟨g', cap', cur, h', _, hg, _, _, _, htake⟩
  · simp at h'
  · simp only [Value.slice.injEq, Option.some.injEq, Addr.mk.injEq, and_true] at h'
    obtain ⟨rfl, rfl, rfl⟩ := h'
    have e : (xs.map strV)[j]? = some (strV x) := by rw [List.getElem?_map, hj]; rfl
    rw [cell_of_row w g j cur _ (0, 0) hg, ← e, ← htake, List.getElem?_take, if_pos (by omega)]
    simp
theorem OwnT.shape {w : World} {base : Nat} {v : Value} {xs : List (List UInt8)} (h : OwnT w base v xs) : ∃ A c, v = .slice A xs.length c := by
  rcases h.2 with ⟨h', hn⟩ | ⟨g', cap', cur, h', _⟩
  · exact ⟨none, 0, by rw [hn]; exact h'⟩
  · exact ⟨_, _, h'⟩
theorem OwnT.form {w : World} {base n c : Nat} {A : Option Addr} {xs : List (List UInt8)} (h : OwnT w base (.slice A n c) xs) : n = xs.length ∧ n ≤ c ∧ (A = none ∧ n = 0 ∨ ∃ g, A = some ⟨g, 0, none⟩ ∧ base ≤ g ∧ g < w.heap.size) := by
  rcases h.2 with ⟨h', hn⟩ | ⟨g', cap', cur, h', hb, hg, hnc, _⟩
  · simp only [Value.slice.injEq] at h'
    exact ⟨by omega, by omega, .inl ⟨h'.1, by omega⟩⟩
  · simp only [Value.slice.injEq] at h'
    exact ⟨h'.2.1, by omega, .inr ⟨g', h'.1, hb, (Array.getElem?_eq_some_iff.1 hg).1⟩⟩
theorem OwnT.alloc {w : World} {base : Nat} {v : Value} {xs : List (List UInt8)} (h : OwnT w base v xs) (o : Obj) : OwnT (w.alloc o) base v xs := World.ownsRow.alloc h o
theorem OwnT.keep {w w' : World} {base : Nat} {v : Value} {xs : List (List UInt8)} (h : OwnT w base v xs) (hb : Below w.heap.size w w') : OwnT w' base v xs := row_keep h fun k hk => hb.block k (World.ownsRow.lt h k hk).2
theorem OwnT.below {w w' : World} {base B : Nat} {v : Value} {xs : List (List UInt8)} (h : OwnT w base v xs) (hb : Below B w w') (hB : ∀ k, v.ownBlock = some k → k < B) : OwnT w' base v xs := row_keep h fun k hk => hb.block k (hB k hk)
theorem OwnT.base_ {w : World} {base base' : Nat} {v : Value} {xs : List (List UInt8)} (h : OwnT w base v xs) (hb : base' ≤ base) : OwnT w base' v xs := by
  refine ⟨h.1, ?_⟩
  rcases h.2 with hn | ⟨g, cap, cur, hv, hbb, rest⟩
  · exact .inl hn
  · exact .inr ⟨g, cap, cur, hv, by omega, rest⟩
theorem ownT_empty (w : World) : OwnT (w.alloc (.cells #[] 9)) w.heap.size (.slice (some ⟨w.heap.size, 0, none⟩) 0 0) [] :=
  World.ownsRow_lit w #[] 0 (Nat.le_refl _) (Nat.zero_le _) rfl
section
variable {ops : Array Oper} {rest : List Oper} {o : Oper} {a : Act} {Q : Exit → Act → World → Prop} {w : World}
/-- append of one string -/
theorem appT (hgd : o.guard = none) (s x : Operand) (ho : o.op = .call { callee := .builtin .append, args := #[s, x], argTypes := #[75, 75] })
    (base : Nat) (v : Value) (xs : List (List UInt8)) (q : List UInt8) (b n : Nat) (hz : xs.length = n) (hs : a.eval s = v) (hown : OwnT w base v xs) (hx : a.eval x = .slice (some ⟨b, 0, none⟩) 1 1)
    (hnew : w.heap[b]? = some (.cells #[.string (strB q)] 9 (0, 0))) (hn : xs.length ≤ 1073741824) (hbase : base ≤ w.heap.size)
    (h : ∀ A c w', OwnT w' base (.slice A (n + 1) c) (xs ++ [q]) → w.grownBy w' v.ownBlock → wpList Tryd.prog ops Q rest (a.put o.dst (.slice A (n + 1) c)) w') : wpList Tryd.prog ops Q (o :: rest) a w := by
  obtain ⟨i0, hi, hz0, hz1, hz2⟩ := info_parts info_string
  refine wpList_append_own w hgd s x 75 ho base 9 i0 _ 1 16 Tryd.underlying75 hi hz0 hz1 hz2 rfl (by decide) v xs.length _ hs hown ⟨b, 0, none⟩ 1 1 [.string (strB q)] hx rfl (World.news_of_block (cs := #[.string (strB q)]) hnew) (by simp [Value.oneCell'])
    (by unfold maxLen; omega) (by omega) hbase ?_
  intro v' w' h1 h2 _
  have h3 : OwnT w' base v' (xs ++ [q]) := by
    unfold OwnT
    rw [List.length_append, List.map_append]
    exact h1
  obtain ⟨A, c, e⟩ := h3.shape
  rw [List.length_append, hz] at e
  rw [e] at h3 ⊢
  exact h A c w' h3 h2
end
/-- strings.Join over a slice of the call's own -/
theorem join_own (base g n c : Nat) (xs : List (List UInt8)) (sep : List UInt8) (w : World) (h : OwnT w base (.slice (some ⟨g, 0, none⟩) n c) xs) (hn : n ≤ 1000) (hl : (Lib.join xs sep).length ≤ 1000000) :
    Calls Tryd.prog 49 #[.slice (some ⟨g, 0, none⟩) n c, .string (strB sep)] w fun e w' => e = .returned (.string (strB (Lib.join xs sep))) ∧ Below w.heap.size w w' := by
  obtain ⟨f1, f2, f3⟩ := h.form
  have hg : g < w.heap.size := by
    rcases f3 with ⟨f3, _⟩ | ⟨g', e, _, hg⟩
    · cases f3
    · simp only [Option.some.injEq, Addr.mk.injEq, and_true] at e
      omega
  have e1 : (xs.map strB).map (·.data.toList) = xs := by rw [List.map_map]; conv => rhs; rw [← List.map_id xs]
                                                         exact List.map_congr_left fun a _ => strB_list a
  have hJ := Tryd.strings_Join g 0 c (xs.map strB) (strB sep) w (fun j x hx => by
    rw [List.getElem?_map] at hx
    cases hxj : xs[j]? with
    | none => rw [hxj] at hx; cases hx
    | some y =>
      rw [hxj] at hx
      simp only [Option.map_some, Option.some.injEq] at hx
      rw [Nat.zero_add, ← hx]
      exact h.cellAt hxj) hg (by rw [List.length_map]; omega) (by rw [List.length_map]; omega) (by rw [e1, strB_list]; omega)
  rw [e1, strB_list, List.length_map, ← f1] at hJ
  exact hJ
end Go.Proofs.YtheafiaemcmjaaaDoor
