/- Rows for FnSwaps: the tail of rows, a literal of one row. -/
import Derived.Test.YtkglgbdiakinlaaFair
import Derived.Test.YtkglgbdiakinlaaRecv
import Derived.Test.YtkglgbdiakinlaaRound
import Derived.Test.YtkglgbdiakinlaaPairs
import Derived.Test.YtkglgbdiakinlaaSwap1
import Derived.Test.YtkglgbdiakinlaaMeet
import Derived.Test.YtkglgbdiakinlaaPureSw
import Derived.Test.YtkglgbdiakinlaaCode
namespace Go.Proofs.Ytkglgbdiakinlaa
open Go.ChangeShapes Go.WideShapes Go.ChangeAt Go.RowKit
theorem rowII_tail {w : World} {B b off n c : Nat} {z : Nat → List Int} (h : RowII w B (some ⟨b, off, none⟩) n c z) (hn : 0 < n) : RowII w B (some ⟨b, off + 1, none⟩) (n - 1) (c - 1) (fun j => z (j + 1)) := by
  have h1 := h.1
  have h2 := h.2.1
  refine ⟨by omega, by omega, fun hp => ?_⟩
  obtain ⟨b', off', e, hb, hc⟩ := h.2.2 hn
  simp only [Option.some.injEq, Addr.mk.injEq, and_true] at e
  obtain ⟨rfl, rfl⟩ := e
  refine ⟨b, off + 1, rfl, hb, fun i hi => ?_⟩
  obtain ⟨Ai, ci, h3, h4⟩ := hc (i + 1) (by omega)
  exact ⟨Ai, ci, by rw [show off + 1 + i = off + (i + 1) by omega]; exact h3, h4⟩
theorem rowII_none {w : World} {B n c : Nat} {A : Option Addr} {z : Nat → List Int} (hn : n = 0) (hc : c ≤ 9223372036854775807) : RowII w B A n c z := by
  refine ⟨by omega, by unfold maxLen; omega, fun hp => by omega⟩
theorem own_pair (w : World) (x y : Int) : OwnI (w.alloc (.cells #[.int .i64 x, .int .i64 y] 3)) w.heap.size (.slice (some ⟨w.heap.size, 0, none⟩) 2 2) [x, y] :=
  World.ownsRow_lit w #[.int .i64 x, .int .i64 y] 2 (Nat.le_refl _) (by unfold maxLen; omega) rfl
theorem rows_one (w : World) : RowII ((w.alloc (.cells #[.int .i64 1, .int .i64 0] 3)).alloc (.cells #[.slice (some ⟨w.heap.size, 0, none⟩) 2 2] 27)) ((w.alloc (.cells #[.int .i64 1, .int .i64 0] 3)).alloc (.cells #[.slice (some ⟨w.heap.size, 0, none⟩) 2 2] 27)).heap.size (some ⟨w.heap.size + 1, 0, none⟩) 1 1 (fun _ => [1, 0]) := by
  refine ⟨Nat.le_refl _, by unfold maxLen; omega, fun hp => ⟨w.heap.size + 1, 0, rfl, by simp, fun i hi => ?_⟩⟩
  obtain rfl : i = 0 := by omega
  refine ⟨some ⟨w.heap.size, 0, none⟩, 2, ?_, ?_⟩
  · go_simp
  · have h := (own_pair w 1 0).alloc (.cells #[.slice (some ⟨w.heap.size, 0, none⟩) 2 2] 27)
    exact h.rowI (by intro x hx; simp at hx; rcases hx with rfl | rfl <;> rfl)
end Go.Proofs.Ytkglgbdiakinlaa
