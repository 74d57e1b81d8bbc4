/- Plain functions on plans: the plan of pairs. No program in sight. -/
import Derived.Test.YtkglgbdiakinlaaPureB
namespace Go.Proofs.Ytkglgbdiakinlaa
def meetTo (m j k : Nat) : Int := if k + 1 = m then (j : Int) else if k = j then (m : Int) - 1 else (2 * (j : Int) - k) % ((m : Int) - 1)
/-- round j of the plan of pairs for m members -/
def meetRow (m j : Nat) : List Int := (List.range m).map fun k => meetTo m j k
theorem meetRow_len (m j : Nat) : (meetRow m j).length = m := by simp [meetRow]
theorem nth_meetRow {m j k : Nat} (h : k < m) : nth (meetRow m j) k = meetTo m j k := nth_map_range h
theorem meet_last {m j k : Nat} (h : k + 1 = m) : meetTo m j k = j := by unfold meetTo; rw [if_pos h]
theorem meet_self {m j k : Nat} (h : k + 1 < m) (e : k = j) : meetTo m j k = (m : Int) - 1 := by unfold meetTo; rw [if_neg (by omega), if_pos e]
theorem meet_other {m j k : Nat} (h : k + 1 < m) (e : k ≠ j) : meetTo m j k = (2 * (j : Int) - k) % ((m : Int) - 1) := by unfold meetTo; rw [if_neg (by omega), if_neg e]
def meetN (n : Int) : Nat := if inB n 2 10 && (n % 2 == 0) then (n - 1).toNat else 0
theorem meetN_of {n : Nat} (h : 2 ≤ n) (h2 : n ≤ 10) (h3 : n % 2 = 0) : meetN n = n - 1 := by
  unfold meetN
  rw [inB_mk (by omega) (by omega), show ((n : Int) % 2 == 0) = true from beq_iff_eq.2 (by omega), Bool.and_self, if_pos rfl]
  omega
theorem meetN_no {n : Int} (h : inB n 2 10 = false) : meetN n = 0 := by
  unfold meetN
  rw [h]
  rfl
theorem meetN_odd {n : Int} (h : n % 2 = 1) : meetN n = 0 := by
  unfold meetN
  rw [show (n % 2 == 0) = false from beq_eq_false_iff_ne.2 (by omega), Bool.and_false]
  rfl
theorem meetN_le (n : Int) : meetN n ≤ 9 := by
  unfold meetN
  split
  · rename_i h
    have := inB_t (Bool.and_eq_true_iff.1 h).1
    omega
  · omega
/-- the program's way to a round, for small numbers -/
def ways (m j k : Int) : Int := (Int.tmod (2 * j - k) (m - 1) + m - 1) % (m - 1)
theorem ways_fin : ∀ m : Fin 11, ∀ j : Fin 10, ∀ k : Fin 10, (2 ≤ m.val ∧ m.val % 2 = 0 ∧ j.val + 1 < m.val ∧ k.val + 1 < m.val) →
    (k.val = j.val → ways m.val j.val k.val = k.val) ∧ (k.val ≠ j.val → ways m.val j.val k.val ≠ k.val ∧ ways m.val j.val k.val = (2 * (j.val : Int) - k.val) % ((m.val : Int) - 1)) ∧
    0 ≤ Int.tmod (2 * (j.val : Int) - k.val) ((m.val : Int) - 1) + m.val - 1 ∧ Int.tmod (2 * (j.val : Int) - k.val) ((m.val : Int) - 1) + m.val ≤ 20 ∧ -10 ≤ Int.tmod (2 * (j.val : Int) - k.val) ((m.val : Int) - 1) := by decide +kernel
theorem ways_of {m j k : Nat} (h1 : 2 ≤ m) (h2 : m ≤ 10) (h3 : m % 2 = 0) (hj : j + 1 < m) (hk : k + 1 < m) :
    (k = j → ways m j k = k) ∧ (k ≠ j → ways m j k ≠ k ∧ ways m j k = (2 * (j : Int) - k) % ((m : Int) - 1)) ∧
    0 ≤ Int.tmod (2 * (j : Int) - k) ((m : Int) - 1) + m - 1 ∧ Int.tmod (2 * (j : Int) - k) ((m : Int) - 1) + m ≤ 20 ∧ -10 ≤ Int.tmod (2 * (j : Int) - k) ((m : Int) - 1) :=
  ways_fin ⟨m, by omega⟩ ⟨j, by omega⟩ ⟨k, by omega⟩ ⟨h1, h3, hj, hk⟩
theorem meet_wf {n : Int} : ∀ i, i < meetN n → ∀ x ∈ meetRow n.toNat i, (Lit.int .i64 x).wf = true := by
  intro i hi x hx
  unfold meetN at hi
  split at hi
  · rename_i h
    have hb := inB_t (Bool.and_eq_true_iff.1 h).1
    obtain ⟨m, rfl⟩ := Int.eq_ofNat_of_zero_le (show 0 ≤ n by omega)
    rw [Int.toNat_natCast] at hx
    simp only [meetRow, List.mem_map, List.mem_range] at hx
    obtain ⟨k, hk, rfl⟩ := hx
    have h1 := Int.emod_nonneg (2 * (i : Int) - k) (show ((m : Int) - 1) ≠ 0 by omega)
    have h2 := Int.emod_lt_of_pos (2 * (i : Int) - k) (show (0 : Int) < (m : Int) - 1 by omega)
    refine WalkArith.wf_i64 ?_
    unfold meetTo
    split
    · omega
    · split <;> omega
  · omega
end Go.Proofs.Ytkglgbdiakinlaa
