/- Plain functions on plans: the fair plan. No program in sight. -/
import Derived.Test.YtkglgbdiakinlaaPureB
namespace Go.Proofs.Ytkglgbdiakinlaa
/-- round j of the fair plan for n members -/
def swapRow (n j : Nat) : List Int := (List.range n).map fun k : Nat => ((k : Int) + ((j : Int) + 1)) % (n : Int)
theorem swapRow_len (n j : Nat) : (swapRow n j).length = n := by simp [swapRow]
theorem nth_swapRow {n j k : Nat} (h : k < n) : nth (swapRow n j) k = ((k : Int) + ((j : Int) + 1)) % (n : Int) := nth_map_range h
def swapN (n : Int) : Nat := if inB n 2 10 then (n - 1).toNat else 0
theorem swapN_of {n : Nat} (h : 2 ≤ n) (h2 : n ≤ 10) : swapN n = n - 1 := by
  unfold swapN
  rw [inB_mk (by omega) (by omega), if_pos rfl]
  omega
theorem swapN_no {n : Int} (h : inB n 2 10 = false) : swapN n = 0 := by
  unfold swapN
  rw [h]
  rfl
theorem swapN_le (n : Int) : swapN n ≤ 9 := by
  unfold swapN
  split
  · rename_i h; have := inB_t h; omega
  · omega
theorem swapRow_wf {n j : Nat} (hn : 0 < n) (hn2 : n ≤ 10) : ∀ x ∈ swapRow n j, (Lit.int .i64 x).wf = true := by
  intro x hx
  simp only [swapRow, List.mem_map, List.mem_range] at hx
  obtain ⟨k, hk, rfl⟩ := hx
  have h1 := Int.emod_nonneg ((k : Int) + ((j : Int) + 1)) (show (n : Int) ≠ 0 by omega)
  have h2 := Int.emod_lt_of_pos ((k : Int) + ((j : Int) + 1)) (show (0 : Int) < n by omega)
  exact WalkArith.wf_i64 (by omega)
end Go.Proofs.Ytkglgbdiakinlaa
