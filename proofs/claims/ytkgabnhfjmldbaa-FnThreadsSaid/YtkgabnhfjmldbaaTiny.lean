/- The walk over one line; the line that closes a walk, put behind a copy of the lines. -/
import Derived.Test.YtkgabnhfjmldbaaIsTh
import Derived.Test.YtkgabnhfjmldbaaPureFu
import Derived.Test.YtkgabnhfjmldbaaDrL
import Derived.Outline
import Derived.Deep.DeepCutAuto
namespace Go.Proofs.Ytkgabnhfjmldbaa
open Go.ChangeShapes Go.WideShapes Go.ChangeAt Go.RowKit
theorem rowP_one {w : World} {a : Nat} {p q : Int} (ha : w.heap[a]? = some (.cells #[.int .i64 p, .int .i64 q] 43 (0, 0))) (hp : (Lit.int .i64 p).wf = true) (hq : (Lit.int .i64 q).wf = true) :
    RowP 2 w w.heap.size (some ⟨a, 0, none⟩) 1 1 (fun _ => lineF p q) := by
  refine ⟨Nat.le_refl _, by unfold maxLen; omega, fun i _ j hj => ?_, fun _ => ⟨a, 0, rfl, blk_lt ha, fun i hi j hj => ?_⟩⟩
  · show (Lit.int .i64 (if j = 0 then p else q)).wf = true
    split <;> assumption
  · obtain rfl : i = 0 := by omega
    rcases (by omega : j = 0 ∨ j = 1) with rfl | rfl
    · exact blk_cell ha 0
    · exact blk_cell ha 1
theorem rowI_two {w : World} {b : Nat} {p q : Int} (hb : w.heap[b]? = some (.cells #[.int .i64 p, .int .i64 q] 3 (0, 0))) (hp : (Lit.int .i64 p).wf = true) (hq : (Lit.int .i64 q).wf = true) :
    RowI .i64 w w.heap.size (some ⟨b, 0, none⟩) 2 2 [p, q] := by
  refine ⟨rfl, Nat.le_refl _, by unfold maxLen; omega, fun z hz => ?_, fun _ => ⟨b, 0, rfl, blk_lt hb, fun j hj => ?_⟩⟩
  · simp only [List.mem_cons, List.not_mem_nil, or_false] at hz
    rcases hz with rfl | rfl <;> assumption
  · rcases (by omega : j = 0 ∨ j = 1) with rfl | rfl
    · exact blk_cell hb 0
    · exact blk_cell hb 1
theorem heap_new2 (y : World) (p o : Obj) : ((y.alloc p).alloc o).heap[y.heap.size + 1]? = some o := by
  have h := heap_alloc_new (y.alloc p) o
  rw [show (y.alloc p).heap.size = y.heap.size + 1 by simp] at h
  exact h
theorem heap_new1 (y : World) (p o : Obj) : ((y.alloc p).alloc o).heap[y.heap.size]? = some p := blk_alloc (heap_alloc_new y p) o
theorem tiny_walks : Walks 1 (fun _ => lineF 0 1) [1, 0] := by
  unfold Walks
  exact List.Perm.refl _
theorem tiny (a b : Nat) (w : World) (ha : w.heap[a]? = some (.cells #[.int .i64 0, .int .i64 1] 43 (0, 0))) (hb : w.heap[b]? = some (.cells #[.int .i64 1, .int .i64 0] 3 (0, 0))) :
    Calls Try.prog 20 #[.int .i64 2, .slice (some ⟨a, 0, none⟩) 1 1, .slice (some ⟨b, 0, none⟩) 2 2] w fun e w' => e = .returned (.bool true) ∧ Below w.heap.size w w' := by
  have hin : inN 2 (fun _ => lineF 0 1) 1 := fun k hk => by
    show (0 : Int) ≤ 0 ∧ (0 : Int) < 2 ∧ (0 : Int) ≤ 1 ∧ (1 : Int) < 2 ∧ (0 : Int) ≠ 1
    omega
  exact impl_isThread 2 _ 1 1 2 (fun _ => lineF 0 1) _ 2 [1, 0] w.heap.size w (rowP_one ha (by decide) (by decide)) (Nat.le_refl _) (rowI_two hb (by decide) (by decide)) rfl (by omega)
    (lines_ok (N := 2) (by omega) (by omega) (by omega) hin) hin (fun z hz => by simp only [List.mem_cons, List.not_mem_nil, or_false] at hz; omega) tiny_walks
/-- what an append may read of one line -/
theorem news_line {w : World} {a : Nat} {p q : Int} (ha : w.heap[a]? = some (.cells #[.int .i64 p, .int .i64 q] 43 (0, 0))) : ∀ j u, (flatS 2 1 (fun _ j => if j = 0 then p else q))[j]? = some u → w.cell? ((⟨a, 0, none⟩ : Addr).add j) = some u := by
  have h := World.news_of_block (cs := #[.int .i64 p, .int .i64 q]) ha
  have e : flatS 2 1 (fun _ j => if j = 0 then p else q) = (#[.int .i64 p, .int .i64 q] : Array Value).toList := by simp [flatS, List.range_succ]
  rw [e]
  exact h
theorem cell_al {w : World} {p : Addr} {v : Value} (h : w.cell? p = some v) (o : Obj) : (w.alloc o).cell? p = some v := (World.cell?_alloc_lt w o p (World.block_lt_of_cell? w _ h)).trans h
theorem rowP_drew {m B n c : Nat} {w : World} {A : Option Addr} {f : Nat → Nat → Int} (h : RowP m w B A n c f) : RowP m w.drew B A n c f := h
theorem blk_kept {w w' : World} {r : Option Nat} {a : Nat} {o : Obj} (h : w.heap[a]? = some o) (hg : w.grownBy w' r) (hne : r ≠ some a) : w'.heap[a]? = some o := (hg.block a (blk_lt h) (by intro e; exact hne e.symm)).trans h
end Go.Proofs.Ytkgabnhfjmldbaa
