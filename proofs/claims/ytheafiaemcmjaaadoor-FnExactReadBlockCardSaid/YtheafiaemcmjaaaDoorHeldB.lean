/- Contracts of the law's marks on blocks: what is marked is found marked. -/
import Derived.Test.YtheafiaemcmjaaaDoorBlocks
import Derived.Lib.BufferOwn
namespace Go.Proofs.YtheafiaemcmjaaaDoor
open Go.ChangeShapes Go.WideShapes Go.ChangeAt Go.RowKit
theorem held_cells (A : Option Addr) (n c : Nat) (k : Int) (B : Nat) (w : World) (h : RowP 3 w B A n c (marksS 3 k)) (hn : n ≤ 1048576) (hk : 0 ≤ k) (hk2 : k ≤ 1000000000) :
    Calls Tryd.prog 55 #[.slice A n c, .int .i64 k] w fun e w' => e = .returned (.int .i64 (k + 3 * n)) ∧ w = w' := by
  go_enter Tryd.func55, Tryd.ntmps55
  go_wp2_with fail
  go_loop [1, 5] (fun q i => ∃ j : Nat, j ≤ n ∧ i = .int .i64 j ∧ q = .int .i64 (k + 3 * (j : Int))) (fun _ i => n - (intOf i).toNat)
  case atStart => exact ⟨0, Nat.zero_le _, rfl, by simp⟩
  case round =>
    obtain ⟨j, hj, rfl, rfl⟩ := hrel
    by_cases hlt : j < n
    · obtain ⟨b, off, rfl, _, hc⟩ := h.at_ hlt
      have v0 : marksS 3 k j 0 = k + 3 * (j : Int) := by unfold marksS; simp only [Int.natCast_add, Int.natCast_mul]; omega
      have x0 : w.cell? ⟨b, off + j * 3, none⟩ = some (.int .i64 (marksS 3 k j 0)) := by exact hc 0 (by omega)
      rw [v0] at x0
      have v1 : marksS 3 k j 1 = k + 3 * (j : Int) + 1 := by unfold marksS; simp only [Int.natCast_add, Int.natCast_mul]; omega
      have x1 : w.cell? ⟨b, off + j * 3 + 1, none⟩ = some (.int .i64 (marksS 3 k j 1)) := by rw [Nat.add_assoc]; exact hc 1 (by omega)
      rw [v1] at x1
      have v2 : marksS 3 k j 2 = k + 3 * (j : Int) + 1 + 1 := by unfold marksS; simp only [Int.natCast_add, Int.natCast_mul]; omega
      have x2 : w.cell? ⟨b, off + j * 3 + 2, none⟩ = some (.int .i64 (marksS 3 k j 2)) := by rw [Nat.add_assoc]; exact hc 2 (by omega)
      rw [v2] at x2
      clear hc v0 v1 v2
      have i0 : (0 : Int) ≤ (j : Int) := by omega
      have i1 : (j : Int) < (n : Int) := by omega
      go_wp2
      go_round
      case rel => exact ⟨j + 1, by omega, by go_num, by congr 1; omega⟩
      case measure => simp [intOf]; omega
    · have e : j = n := by omega
      have HE := Lib.hid e
      clear e
      go_wp2
      go_ret
      exact ⟨ret_int (by rw [HE.out]), rfl⟩
theorem mark_block (u0 : Int) (A : Option Addr) (n c : Nat) (f : Nat → Nat → Int) (base : Nat) (k : Int) (w : World) (h : OwnS 3 23 w base (.slice A n c) n f) (hn : n ≤ 1048576) (hk : 0 ≤ k) (hk2 : k ≤ 1000000000) :
    Calls Tryd.prog 28 #[.agg #[.int .i64 u0, .slice A n c], .int .i64 k] w fun e w' => e = .returned (.int .i64 (k + 3 * n)) ∧ OwnS 3 23 w' base (.slice A n c) n (marksS 3 k) ∧ w.grownBy w' (blk A) := by
  go_enter Tryd.func28, Tryd.ntmps28
  go_wp2_with fail
  refine (mark_cells A n c f base k _ (h.alloc _) hn hk hk2).mono ?_
  rintro e w2 ⟨rfl, ho, hg⟩
  have hg2 := Lib.grownBy_trans (World.grownBy_alloc w (.cells #[.int .i64 u0, .slice A n c] 46) (blk A)) hg
  clear hg h
  go_wp2
  go_ret
  exact ⟨rfl, ho, hg2⟩
theorem held_block (u0 : Int) (A : Option Addr) (n c : Nat) (k : Int) (B : Nat) (w : World) (h : RowP 3 w B A n c (marksS 3 k)) (hB : B ≤ w.heap.size) (hn : n ≤ 1048576) (hk : 0 ≤ k) (hk2 : k ≤ 1000000000) :
    Calls Tryd.prog 29 #[.agg #[.int .i64 u0, .slice A n c], .int .i64 k] w fun e w' => e = .returned (.int .i64 (k + 3 * n)) ∧ Below w.heap.size w w' := by
  have hb : Below w.heap.size w (w.alloc (.cells #[.int .i64 u0, .slice A n c] 46)) := (Below.refl _ _).alloc (Nat.le_refl _) _
  go_enter Tryd.func29, Tryd.ntmps29
  go_wp2_with fail
  refine (held_cells A n c k B _ (h.below' hb hB) hn hk hk2).mono ?_
  rintro e w2 ⟨rfl, rfl⟩
  have i0 : ¬ (k + 3 * (n : Int) < 0) := by omega
  clear h
  go_wp2
  go_ret
  exact ⟨rfl, hb⟩
end Go.Proofs.YtheafiaemcmjaaaDoor
