/- Contracts of the laws' own functions on slices of slices of integers: copy, size, equality, marks. -/
import Derived.Test.YthenjmjnooaokaaRii
namespace Go.Proofs.Ythenjmjnooaokaa
open Go.ChangeShapes Go.WideShapes Go.ChangeAt Go.RowKit
/-- how many numbers lie in the first n rows -/
def total (z : Nat → List Int) : Nat → Nat
  | 0 => 0
  | n + 1 => total z n + (z n).length
theorem total_mono (z : Nat → List Int) {a b : Nat} (h : a ≤ b) : total z a ≤ total z b := by
  induction h with
  | refl => exact Nat.le_refl _
  | step _ ih => exact Nat.le_trans ih (by simp [total])
theorem total_row (z : Nat → List Int) {i n : Nat} (h : i < n) : total z i + (z i).length ≤ total z n := total_mono z (show i + 1 ≤ n by omega)
theorem total_congr {z z' : Nat → List Int} {n : Nat} (h : ∀ i, i < n → (z i).length = (z' i).length) : total z n = total z' n := by
  induction n with
  | zero => rfl
  | succ n ih => simp only [total]; rw [ih fun i hi => h i (by omega), h n (by omega)]
def part (z : Nat → List Int) (k : Nat) : Nat → List Int := fun i => if i < k then z i else []
theorem part_upd (z : Nat → List Int) (k n : Nat) : ∀ i, i < n → upd (part z k) k (z k) i = part z (k + 1) i := by
  intro i _
  unfold upd part
  by_cases e : i = k
  · subst e; simp
  · by_cases h : i < k
    · rw [if_neg e, if_pos h, if_pos (by omega)]
    · rw [if_neg e, if_neg h, if_neg (by omega)]
theorem rows_made {w : World} {base g n : Nat} (z : Nat → List Int) (hg : g < w.heap.size) (h : w.ownsRow base 44 1 (.slice (some ⟨g, 0, none⟩) n n) n (madeCells (Value.slice none 0 0).cells (n * 1)).toList) :
    OwnII w base w.heap.size (.slice (some ⟨g, 0, none⟩) n n) n (part z 0) := by
  have e : (madeCells (Value.slice none 0 0).cells (n * 1)).toList = (List.range n).map fun _ => Value.slice none 0 0 := by
    rw [Nat.mul_one, show (Value.slice none 0 0).cells = #[Value.slice none 0 0] from rfl, toList_madeCells_one]
    apply List.ext_getElem?
    intro i
    by_cases hi : i < n <;> simp [hi]
  rw [e] at h
  refine ⟨fun _ => .slice none 0 0, h, fun k hk => ?_, fun i hi => ⟨own_nil w base, fun k hk => by cases hk⟩, fun i j k _ _ hk => by cases hk⟩
  simp [Value.ownBlock] at hk
  omega
/-- the rows, marked from k on -/
def markRows (z : Nat → List Int) (k : Int) (m : Nat) : Nat → List Int := fun i => if i < m then marks (k + total z i) (z i).length else z i
theorem markRows_len (z : Nat → List Int) (k : Int) (m i : Nat) : (markRows z k m i).length = (z i).length := by
  unfold markRows; split <;> simp [marks_len]
theorem markRows_upd (z : Nat → List Int) (k : Int) (m n : Nat) : ∀ i, i < n → upd (markRows z k m) m (marks (k + total z m) (z m).length) i = markRows z k (m + 1) i := by
  intro i _
  unfold upd markRows
  by_cases e : i = m
  · subst e; simp
  · by_cases h : i < m
    · rw [if_neg e, if_pos h, if_pos (by omega)]
    · rw [if_neg e, if_neg h, if_neg (by omega)]
theorem markRows_wf {z : Nat → List Int} {k : Int} {n : Nat} (hn : n + total z n ≤ 1048576) (hk : 0 ≤ k) (hk2 : k ≤ 1000000) : ∀ i, i < n → ∀ x ∈ markRows z k n i, (Lit.int .i64 x).wf = true := by
  intro i hi
  have ht := total_row z hi
  unfold markRows
  rw [if_pos hi]
  exact marks_wf (by omega) (by omega) (by omega)
theorem rowII_wf {w : World} {B n c : Nat} {A : Option Addr} {z : Nat → List Int} (h : RowII w B A n c z) {i : Nat} (hi : i < n) : ∀ x ∈ z i, (Lit.int .i64 x).wf = true := by
  obtain ⟨b, off, _, _, Ai, ci, _, hr⟩ := h.at_ hi
  exact hr.2.2.2.1
end Go.Proofs.Ythenjmjnooaokaa
