/- Contracts of the law's marks on quilts: what is marked is found marked. -/
import Derived.Test.YtheafiaemcmjaaaDoorQuilts
import Derived.Lib.BufferOwn
namespace Go.Proofs.YtheafiaemcmjaaaDoor
open Go.ChangeShapes Go.WideShapes Go.ChangeAt Go.RowKit
theorem held_spots (A : Option Addr) (n c : Nat) (k : Int) (B : Nat) (w : World) (h : RowP 2 w B A n c (marksS 2 k)) (hn : n ≤ 1048576) (hk : 0 ≤ k) (hk2 : k ≤ 1000000000) :
    Calls Tryd.prog 53 #[.slice A n c, .int .i64 k] w fun e w' => e = .returned (.int .i64 (k + 2 * n)) ∧ w = w' := by
  go_enter Tryd.func53, Tryd.ntmps53
  go_wp2_with fail
  go_loop [1, 5] (fun q i => ∃ j : Nat, j ≤ n ∧ i = .int .i64 j ∧ q = .int .i64 (k + 2 * (j : Int))) (fun _ i => n - (intOf i).toNat)
  case atStart => exact ⟨0, Nat.zero_le _, rfl, by simp⟩
  case round =>
    obtain ⟨j, hj, rfl, rfl⟩ := hrel
    by_cases hlt : j < n
    · obtain ⟨b, off, rfl, _, hc⟩ := h.at_ hlt
      have v0 : marksS 2 k j 0 = k + 2 * (j : Int) := by unfold marksS; simp only [Int.natCast_add, Int.natCast_mul]; omega
      have x0 : w.cell? ⟨b, off + j * 2, none⟩ = some (.int .i64 (marksS 2 k j 0)) := by exact hc 0 (by omega)
      rw [v0] at x0
      have v1 : marksS 2 k j 1 = k + 2 * (j : Int) + 1 := by unfold marksS; simp only [Int.natCast_add, Int.natCast_mul]; omega
      have x1 : w.cell? ⟨b, off + j * 2 + 1, none⟩ = some (.int .i64 (marksS 2 k j 1)) := by rw [Nat.add_assoc]; exact hc 1 (by omega)
      rw [v1] at x1
      clear hc v0 v1
      have i0 : (0 : Int) ≤ (j : Int) := by omega
      have i1 : (j : Int) < (n : Int) := by omega
      go_wp2
      go_round
      case rel => exact ⟨j + 1, by omega, by go_num, by congr 1; omega⟩
      case measure => simp [intOf]; omega
    · have e : j = n := by omega
      have HE := Lib.hid e
      clear e
      go_wp2
      go_ret
      exact ⟨ret_int (by rw [HE.out]), rfl⟩
theorem mark_quilt (u0 u1 : Int) (A : Option Addr) (n c : Nat) (f : Nat → Nat → Int) (base : Nat) (k : Int) (w : World) (h : OwnS 2 64 w base (.slice A n c) n f) (hn : n ≤ 1048576) (hk : 0 ≤ k) (hk2 : k ≤ 1000000000) :
    Calls Tryd.prog 24 #[.agg #[.int .i64 u0, .int .i64 u1, .slice A n c], .int .i64 k] w fun e w' => e = .returned (.int .i64 (k + 2 * n)) ∧ OwnS 2 64 w' base (.slice A n c) n (marksS 2 k) ∧ w.grownBy w' (blk A) := by
  go_enter Tryd.func24, Tryd.ntmps24
  go_wp2_with fail
  refine (mark_spots A n c f base k _ (h.alloc _) hn hk hk2).mono ?_
  rintro e w2 ⟨rfl, ho, hg⟩
  have hg2 := Lib.grownBy_trans (World.grownBy_alloc w (.cells #[.int .i64 u0, .int .i64 u1, .slice A n c] 35) (blk A)) hg
  clear hg h
  go_wp2
  go_ret
  exact ⟨rfl, ho, hg2⟩
theorem held_quilt (u0 u1 : Int) (A : Option Addr) (n c : Nat) (k : Int) (B : Nat) (w : World) (h : RowP 2 w B A n c (marksS 2 k)) (hB : B ≤ w.heap.size) (hn : n ≤ 1048576) (hk : 0 ≤ k) (hk2 : k ≤ 1000000000) :
    Calls Tryd.prog 25 #[.agg #[.int .i64 u0, .int .i64 u1, .slice A n c], .int .i64 k] w fun e w' => e = .returned (.int .i64 (k + 2 * n)) ∧ Below w.heap.size w w' := by
  have hb : Below w.heap.size w (w.alloc (.cells #[.int .i64 u0, .int .i64 u1, .slice A n c] 35)) := (Below.refl _ _).alloc (Nat.le_refl _) _
  go_enter Tryd.func25, Tryd.ntmps25
  go_wp2_with fail
  refine (held_spots A n c k B _ (h.below' hb hB) hn hk hk2).mono ?_
  rintro e w2 ⟨rfl, rfl⟩
  have i0 : ¬ (k + 2 * (n : Int) < 0) := by omega
  clear h
  go_wp2
  go_ret
  exact ⟨rfl, hb⟩
end Go.Proofs.YtheafiaemcmjaaaDoor
