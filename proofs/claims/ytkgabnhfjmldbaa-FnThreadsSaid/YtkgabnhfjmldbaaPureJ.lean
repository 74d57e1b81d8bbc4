/- Plain functions on parcels: who is late, the greatest lateness. No program in sight. -/
import Derived.Test.YtkgabnhfjmldbaaPureL
import Derived.Test.YtkgabnhfjmldbaaPureY
namespace Go.Proofs.Ytkgabnhfjmldbaa
section
variable (f : Nat → Nat → Int) (a c t : Int)
def lateAt (k : Nat) : Int := lateDays (f k) a c t
theorem lateAt_bd (k : Nat) : -1 ≤ lateAt f a c t k ∧ lateAt f a c t k ≤ 100000 := lateDays_bd _ _ _ _
def lateOk (n : Nat) : Bool := allTo (fun k => decide (0 ≤ lateAt f a c t k)) n
def graceOk (n : Nat) : Bool := decide (n ≤ 60) && lateOk f a c t n
def lates (n : Nat) : List Int := (List.range n).map (lateAt f a c t)
theorem lates_len (n : Nat) : (lates f a c t n).length = n := by simp [lates]
theorem lates_step (n : Nat) : lates f a c t (n + 1) = lates f a c t n ++ [lateAt f a c t n] := by simp [lates, List.range_succ]
theorem nth_lates {n k : Nat} (h : k < n) : nth (lates f a c t n) k = lateAt f a c t k := nth_map_range h
theorem lates_wf (n : Nat) : ∀ x ∈ lates f a c t n, (Lit.int .i64 x).wf = true := by
  intro x hx
  simp only [lates, List.mem_map, List.mem_range] at hx
  obtain ⟨k, _, rfl⟩ := hx
  have := lateAt_bd f a c t k
  exact WalkArith.wf_i64 (by omega)
def graceTo : Nat → Int
  | 0 => 0
  | k + 1 => max (graceTo k) (lateAt f a c t k)
theorem graceTo_bd (k : Nat) : 0 ≤ graceTo f a c t k ∧ graceTo f a c t k ≤ 100000 := by
  induction k with
  | zero => simp [graceTo]
  | succ k ih =>
    have := lateAt_bd f a c t k
    simp only [graceTo]
    omega
def graceN (n : Nat) : Int := if graceOk f a c t n then graceTo f a c t n else -1
/-- whether member v is late, by the first k parcels -/
def isLate (v : Nat) : Nat → Bool
  | 0 => false
  | k + 1 => isLate v k || (decide (0 < lateAt f a c t k) && (f k 1 == (v : Int)))
/-- the members below N who are late, by the first k parcels -/
def membs (p : Nat → Bool) (N : Nat) : List Int := ((List.range N).filter p).map fun v : Nat => (v : Int)
def lateMs (k : Nat) : List Int := membs (fun v => isLate f a c t v k) 10
def lateMembs (n : Nat) : List Int := if graceOk f a c t n then lateMs f a c t n else []
end
theorem membs_succ (p : Nat → Bool) (N : Nat) : membs p (N + 1) = membs p N ++ (if p N then [(N : Int)] else []) := by
  unfold membs
  rw [List.range_succ, List.filter_append, List.map_append]
  cases h : p N <;> simp [h]
theorem membs_lt {p : Nat → Bool} {N : Nat} {x : Int} : x ∈ membs p N ↔ ∃ v : Nat, v < N ∧ p v = true ∧ x = v := by
  simp only [membs, List.mem_map, List.mem_filter, List.mem_range]
  constructor
  · rintro ⟨v, ⟨h1, h2⟩, e⟩; exact ⟨v, h1, h2, e.symm⟩
  · rintro ⟨v, h1, h2, e⟩; exact ⟨v, ⟨h1, h2⟩, e.symm⟩
theorem membs_none {p : Nat → Bool} {N v : Nat} (h : N ≤ v) : anyGe (v : Int) (membs p N) = false := by
  unfold anyGe
  rw [List.any_eq_false]
  intro x hx
  obtain ⟨u, hu, _, rfl⟩ := membs_lt.1 hx
  simp; omega
theorem membs_ins (p : Nat → Bool) (N v : Nat) (hv : v < N) (hp : p v = false) : ins (v : Int) (membs p N) = membs (fun x => p x || (x == v)) N := by
  induction N with
  | zero => omega
  | succ N ih =>
    rw [membs_succ, membs_succ]
    rcases (by omega : v = N ∨ v < N) with e | e
    · subst e
      rw [hp]
      have e2 : membs (fun x => p x || (x == v)) v = membs p v := by
        unfold membs
        congr 1
        apply List.filter_congr
        intro x hx
        have := List.mem_range.1 hx
        have h2 : (x == v) = false := by simp; omega
        rw [h2, Bool.or_false]
      rw [e2]
      simp only [BEq.rfl, Bool.or_true, if_true]
      simp only [Bool.false_eq_true, if_false, List.append_nil]
      exact ins_none _ _ (membs_none (Nat.le_refl _))
    · have ih := ih e
      have h2 : (N == v) = false := by simp; omega
      simp only [h2, Bool.or_false]
      cases h : p N with
      | false => simp only [Bool.false_eq_true, if_false, List.append_nil]; exact ih
      | true =>
        simp only [if_true]
        rw [ins_snoc]
        rcases Bool.eq_false_or_eq_true (anyGe (v : Int) (membs p N)) with q | q
        · rw [if_pos q, ih]
        · rw [if_neg (by rw [q]; simp), ← ih, ins_none _ _ q]
          simp [ins, show (v : Int) ≤ (N : Int) by omega]
theorem membs_congr {p q : Nat → Bool} {N : Nat} (h : ∀ v, v < N → p v = q v) : membs p N = membs q N := by
  unfold membs
  congr 1
  exact List.filter_congr fun x hx => h x (List.mem_range.1 hx)
theorem membs_len (p : Nat → Bool) (N : Nat) : (membs p N).length ≤ N := by
  unfold membs
  rw [List.length_map]
  exact Nat.le_trans (List.length_filter_le _ _) (by simp)
theorem membs_wf {p : Nat → Bool} {N : Nat} (hN : N ≤ 1000) : ∀ x ∈ membs p N, (Lit.int .i64 x).wf = true := by
  intro x hx
  obtain ⟨v, hv, _, rfl⟩ := membs_lt.1 hx
  exact WalkArith.wf_i64 (by omega)
theorem membs_has {p : Nat → Bool} {N v : Nat} (hv : v < N) : (membs p N).contains (v : Int) = p v := by
  rw [Bool.eq_iff_iff, List.contains_iff_mem, membs_lt]
  constructor
  · rintro ⟨u, _, h, e⟩
    rw [show v = u by omega]; exact h
  · intro h; exact ⟨v, hv, h, rfl⟩
section
variable {f : Nat → Nat → Int} {a c t : Int}
theorem lateMs_same {k v : Nat} (h : (decide (0 < lateAt f a c t k) && (f k 1 == (v : Int))) = false ∨ isLate f a c t v k = true) (hv : f k 1 = v) : lateMs f a c t (k + 1) = lateMs f a c t k := by
  apply membs_congr
  intro u hu
  show (isLate f a c t u k || (decide (0 < lateAt f a c t k) && (f k 1 == (u : Int)))) = isLate f a c t u k
  by_cases e : u = v
  · subst e
    rcases h with h | h
    · rw [h, Bool.or_false]
    · rw [h, Bool.true_or]
  · have : (f k 1 == (u : Int)) = false := by rw [hv]; simp; omega
    rw [this, Bool.and_false, Bool.or_false]
theorem lateMs_skip {k : Nat} (h : lateAt f a c t k ≤ 0) : lateMs f a c t (k + 1) = lateMs f a c t k := by
  apply membs_congr
  intro u hu
  show (isLate f a c t u k || (decide (0 < lateAt f a c t k) && (f k 1 == (u : Int)))) = isLate f a c t u k
  rw [decide_eq_false (by omega), Bool.false_and, Bool.or_false]
theorem lateMs_new {k v : Nat} (h1 : 0 < lateAt f a c t k) (hv : f k 1 = v) (hv10 : v < 10) (hn : isLate f a c t v k = false) : lateMs f a c t (k + 1) = ins (v : Int) (lateMs f a c t k) := by
  unfold lateMs
  rw [membs_ins _ _ _ hv10 hn]
  apply membs_congr
  intro u hu
  show (isLate f a c t u k || (decide (0 < lateAt f a c t k) && (f k 1 == (u : Int)))) = (isLate f a c t u k || (u == v))
  rw [decide_eq_true h1, Bool.true_and, hv]
  congr 1
  rw [Bool.eq_iff_iff]
  simp
  omega
theorem lateAt_from {k : Nat} (h : 0 ≤ lateAt f a c t k) : 0 ≤ f k 1 ∧ f k 1 ≤ 9 := by
  unfold lateAt lateDays at h
  split at h
  · rename_i h2
    simp only [Bool.and_eq_true] at h2
    exact (parcelOk_t h2.1.1).2.1
  · omega
theorem lateOk_no {k n : Nat} (h : k < n) (e : lateAt f a c t k < 0) : graceOk f a c t n = false := by
  unfold graceOk lateOk
  rw [allTo_no h (p := fun k => decide (0 ≤ lateAt f a c t k)) (decide_eq_false (by omega)), Bool.and_false]
theorem lateMembs_len (f : Nat → Nat → Int) (a c t : Int) (n : Nat) : (lateMembs f a c t n).length ≤ 10 := by
  unfold lateMembs
  split
  · exact membs_len _ _
  · simp
theorem lateMembs_wf (f : Nat → Nat → Int) (a c t : Int) (n : Nat) : ∀ x ∈ lateMembs f a c t n, (Lit.int .i64 x).wf = true := by
  unfold lateMembs
  split
  · exact membs_wf (by omega)
  · simp
end
theorem idxFrom_none {zs : List Int} {x : Int} : ∀ f k, (∀ i, k ≤ i → i < k + f → nth zs i ≠ x) → idxFrom zs x k f = -1 := by
  intro f
  induction f with
  | zero => intro k _; rfl
  | succ f ih =>
    intro k h
    simp only [idxFrom]
    rw [if_neg (by simpa using h k (Nat.le_refl _) (by omega))]
    exact ih (k + 1) fun i h1 h2 => h i (by omega) (by omega)
theorem idxFrom_some {zs : List Int} {x : Int} : ∀ f k, (∃ i, k ≤ i ∧ i < k + f ∧ nth zs i = x) → 0 ≤ idxFrom zs x k f := by
  intro f
  induction f with
  | zero => intro k ⟨i, h1, h2, _⟩; omega
  | succ f ih =>
    intro k ⟨i, h1, h2, h3⟩
    simp only [idxFrom]
    by_cases e : (nth zs k == x) = true
    · rw [if_pos e]; omega
    · rw [if_neg e]
      refine ih (k + 1) ⟨i, ?_, by omega, h3⟩
      rcases (by omega : i = k ∨ k < i) with q | q
      · subst q; exact absurd (beq_iff_eq.2 h3) e
      · omega
theorem idxOf_has (zs : List Int) (x : Int) : decide (idxOf zs x < 0) = !zs.contains x := by
  rcases Bool.eq_false_or_eq_true (zs.contains x) with h | h
  · rw [h]
    obtain ⟨i, hi, e⟩ := List.mem_iff_getElem.1 (List.contains_iff_mem.1 h)
    have := idxFrom_some (zs := zs) (x := x) zs.length 0 ⟨i, by omega, by omega, by rw [nth_eq hi, e]⟩
    exact decide_eq_false (by unfold idxOf; omega)
  · rw [h]
    have : idxOf zs x = -1 := idxFrom_none _ _ fun i _ hi e => by
      have hm := nth_mem (zs := zs) (i := i) (by omega)
      rw [e] at hm
      rw [List.contains_iff_mem.2 hm] at h
      cases h
    rw [this]; rfl
end Go.Proofs.Ytkgabnhfjmldbaa
