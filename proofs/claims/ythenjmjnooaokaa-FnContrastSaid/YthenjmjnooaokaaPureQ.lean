/- Plain functions: insertion into a list, sorted lists, strictly ascending lists; rounds of a plan in which everyone receives once. No program in sight. -/
import Derived.Test.YthenjmjnooaokaaPureR
namespace Go.Proofs.Ythenjmjnooaokaa
/-- a number is put ahead of the first one that is not less -/
def ins (n : Int) : List Int → List Int
  | [] => [n]
  | x :: xs => if n ≤ x then n :: x :: xs else x :: ins n xs
/-- is there a number that is not less than n? -/
def anyGe (n : Int) (xs : List Int) : Bool := xs.any fun x => decide (n ≤ x)
theorem ins_snoc (n x : Int) (xs : List Int) : ins n (xs ++ [x]) = if anyGe n xs then ins n xs ++ [x] else xs ++ ins n [x] := by
  induction xs with
  | nil => simp [ins, anyGe]
  | cons y ys ih =>
    by_cases h : n ≤ y
    · simp [ins, anyGe, h]
    · simp only [List.cons_append, ins, h, if_false, ih]
      have : anyGe n (y :: ys) = anyGe n ys := by simp [anyGe, h]
      rw [this]
      split <;> simp
theorem ins_none (n : Int) (xs : List Int) (h : anyGe n xs = false) : ins n xs = xs ++ [n] := by
  induction xs with
  | nil => rfl
  | cons y ys ih =>
    have h2 : (decide (n ≤ y) || anyGe n ys) = false := h
    have h3 := Bool.or_eq_false_iff.1 h2
    simp only [ins, of_decide_eq_false h3.1, if_false, ih h3.2, List.cons_append]
theorem anyGe_snoc (n x : Int) (xs : List Int) : anyGe n (xs ++ [x]) = (anyGe n xs || decide (n ≤ x)) := by simp [anyGe, List.any_append]
theorem ins_perm (n : Int) (xs : List Int) : (ins n xs).Perm (n :: xs) := by
  induction xs with
  | nil => exact List.Perm.refl _
  | cons y ys ih =>
    unfold ins
    split
    · exact List.Perm.refl _
    · exact (List.Perm.cons y ih).trans (List.Perm.swap n y ys)
theorem ins_len (n : Int) (xs : List Int) : (ins n xs).length = xs.length + 1 := by simpa using (ins_perm n xs).length_eq
theorem ins_mem {n z : Int} {xs : List Int} : z ∈ ins n xs ↔ z = n ∨ z ∈ xs := by rw [(ins_perm n xs).mem_iff, List.mem_cons]
theorem ins_sorted (n : Int) (xs : List Int) (h : xs.Pairwise (· ≤ ·)) : (ins n xs).Pairwise (· ≤ ·) := by
  induction xs with
  | nil => simp [ins]
  | cons y ys ih =>
    rw [List.pairwise_cons] at h
    unfold ins
    split
    · rename_i hny
      rw [List.pairwise_cons]
      exact ⟨fun z hz => by
        rcases List.mem_cons.1 hz with rfl | hz
        · exact hny
        · exact Int.le_trans hny (h.1 z hz), by rw [List.pairwise_cons]; exact h⟩
    · rename_i hny
      rw [List.pairwise_cons]
      exact ⟨fun z hz => by
        rcases ins_mem.1 hz with rfl | hz
        · omega
        · exact h.1 z hz, ih h.2⟩
/-- the first k numbers in order -/
def sortTo (zs : List Int) : Nat → List Int
  | 0 => []
  | k + 1 => ins (nth zs k) (sortTo zs k)
theorem sortTo_perm (zs : List Int) (k : Nat) (hk : k ≤ zs.length) : (sortTo zs k).Perm (zs.take k) := by
  induction k with
  | zero => simp [sortTo]
  | succ k ih =>
    rw [take_succ_nth (by omega)]
    exact ((ins_perm _ _).trans ((ih (by omega)).cons _)).trans (List.perm_append_comm (l₁ := [nth zs k]))
theorem sortTo_len (zs : List Int) (k : Nat) (hk : k ≤ zs.length) : (sortTo zs k).length = k := by
  rw [(sortTo_perm zs k hk).length_eq]; simp; omega
theorem sortTo_sorted (zs : List Int) (k : Nat) : (sortTo zs k).Pairwise (· ≤ ·) := by
  induction k with
  | zero => simp [sortTo]
  | succ k ih => exact ins_sorted _ _ ih
theorem sortTo_wf {zs : List Int} {p : Int → Prop} (h : ∀ z ∈ zs, p z) {k : Nat} (hk : k ≤ zs.length) : ∀ z ∈ sortTo zs k, p z := fun z hz =>
  h z (List.mem_of_mem_take ((sortTo_perm zs k hk).mem_iff.1 hz))
/-- are the first k numbers strictly ascending? -/
def strictTo (xs : List Int) : Nat → Bool
  | 0 => true
  | k + 1 => strictTo xs k && ((k == 0) || decide (nth xs (k - 1) < nth xs k))
def isStrict (xs : List Int) (a b : Int) : Bool := strictTo xs xs.length && allIn xs a b
theorem strictTo_down {xs : List Int} {j k : Nat} (h : j ≤ k) (hk : strictTo xs k = true) : strictTo xs j = true := by
  induction h with
  | refl => exact hk
  | step _ ih => exact ih (Bool.and_eq_true_iff.1 hk).1
theorem strictTo_no {xs : List Int} {k l : Nat} (h : k < l) (hn : strictTo xs (k + 1) = false) : strictTo xs l = false := by
  rcases Bool.eq_false_or_eq_true (strictTo xs l) with e | e
  · rw [strictTo_down (show k + 1 ≤ l by omega) e] at hn; cases hn
  · exact e
theorem strictTo_iff (xs : List Int) (k : Nat) : strictTo xs k = true ↔ ∀ i, i + 1 < k → nth xs i < nth xs (i + 1) := by
  induction k with
  | zero => simp [strictTo]
  | succ k ih =>
    simp only [strictTo, Bool.and_eq_true, Bool.or_eq_true, beq_iff_eq, decide_eq_true_eq, ih]
    constructor
    · rintro ⟨h1, h2⟩ i hi
      rcases (by omega : i + 1 < k ∨ i + 1 = k) with e | e
      · exact h1 i e
      · subst e
        rcases h2 with h2 | h2
        · omega
        · simpa using h2
    · intro h
      refine ⟨fun i hi => h i (by omega), ?_⟩
      rcases (by omega : k = 0 ∨ 0 < k) with e | e
      · exact Or.inl e
      · have := h (k - 1) (by omega)
        rw [show k - 1 + 1 = k by omega] at this
        exact Or.inr this
theorem sorted_strict (xs : List Int) (h : xs.Pairwise (· ≤ ·)) : strictTo xs xs.length = true ↔ xs.Nodup := by
  rw [strictTo_iff]
  have hle : ∀ i j, i < j → j < xs.length → nth xs i ≤ nth xs j := by
    intro i j hij hj
    rw [nth_eq hj, nth_eq (by omega)]
    exact List.pairwise_iff_getElem.1 h i j (by omega) hj hij
  constructor
  · intro hs
    rw [List.Nodup, List.pairwise_iff_getElem]
    intro i j hi hj hij
    have h1 := hs i (by omega)
    rw [← nth_eq hi, ← nth_eq hj]
    rcases (by omega : i + 1 = j ∨ i + 1 < j) with e | e
    · subst e; omega
    · have := hle (i + 1) j e hj; omega
  · intro hn i hi
    rw [List.Nodup, List.pairwise_iff_getElem] at hn
    have h1 := hle i (i + 1) (by omega) hi
    have h2 := hn i (i + 1) (by omega) hi (by omega)
    rw [← nth_eq, ← nth_eq] at h2
    omega
theorem sort_strict (zs : List Int) : strictTo (sortTo zs zs.length) zs.length = true ↔ zs.Nodup := by
  have hl := sortTo_len zs zs.length (Nat.le_refl _)
  have := sorted_strict (sortTo zs zs.length) (sortTo_sorted _ _)
  rw [hl] at this
  rw [this]
  have hp := sortTo_perm zs zs.length (Nat.le_refl _)
  rw [List.take_length] at hp
  exact hp.nodup_iff
theorem allIn_perm {xs ys : List Int} (h : xs.Perm ys) (a b : Int) : allIn xs a b = allIn ys a b := by
  unfold allIn
  rw [Bool.eq_iff_iff, List.all_eq_true, List.all_eq_true]
  exact ⟨fun hx z hz => hx z (h.mem_iff.2 hz), fun hx z hz => hx z (h.mem_iff.1 hz)⟩
/-- nobody of the first k sends to himself -/
def noFix (r : List Int) : Nat → Bool
  | 0 => true
  | k + 1 => noFix r k && !((k : Int) == nth r k)
theorem noFix_down {r : List Int} {j k : Nat} (h : j ≤ k) (hk : noFix r k = true) : noFix r j = true := by
  induction h with
  | refl => exact hk
  | step _ ih => exact ih (Bool.and_eq_true_iff.1 hk).1
theorem noFix_no {r : List Int} {k l : Nat} (h : k < l) (e : ((k : Int) == nth r k) = true) : noFix r l = false := by
  rcases Bool.eq_false_or_eq_true (noFix r l) with q | q
  · have := noFix_down (show k + 1 ≤ l by omega) q
    simp only [noFix, e, Bool.not_true, Bool.and_false] at this
    cases this
  · exact q
theorem noFix_iff (r : List Int) (k : Nat) : noFix r k = true ↔ ∀ i, i < k → (i : Int) ≠ nth r i := by
  induction k with
  | zero => simp [noFix]
  | succ k ih =>
    simp only [noFix, Bool.and_eq_true, ih, Bool.not_eq_true', beq_eq_false_iff_ne]
    constructor
    · rintro ⟨h1, h2⟩ i hi
      rcases (by omega : i < k ∨ i = k) with e | e
      · exact h1 i e
      · subst e; exact h2
    · intro h
      exact ⟨fun i hi => h i (by omega), h k (by omega)⟩
/-- the program's test of a round -/
def roundI (n : Int) (r : List Int) : Bool := isStrict (sortTo r r.length) 0 (n - 1) && noFix r r.length
def roundsTo (n : Int) (z : Nat → List Int) : Nat → Bool
  | 0 => true
  | j + 1 => roundsTo n z j && roundI n (z j)
def roundsOk (n : Int) (z : Nat → List Int) (l : Nat) : Bool := plansOk n z l && roundsTo n z l
theorem roundsTo_down {n : Int} {z : Nat → List Int} {j l : Nat} (h : j ≤ l) (hl : roundsTo n z l = true) : roundsTo n z j = true := by
  induction h with
  | refl => exact hl
  | step _ ih => exact ih (Bool.and_eq_true_iff.1 hl).1
theorem roundsTo_no {n : Int} {z : Nat → List Int} {j l : Nat} (h : j < l) (e : roundI n (z j) = false) : roundsOk n z l = false := by
  unfold roundsOk
  rcases Bool.eq_false_or_eq_true (roundsTo n z l) with q | q
  · have := roundsTo_down (show j + 1 ≤ l by omega) q
    simp only [roundsTo, e, Bool.and_false] at this
    cases this
  · rw [q, Bool.and_false]
/-- the reference's test of a round -/
def okTo (n : Int) (r : List Int) : Nat → Bool
  | 0 => true
  | k + 1 => okTo n r k && (inB (nth r k) 0 (n - 1) && !(nth r k == (k : Int)) && !(r.take k).contains (nth r k))
def roundS (n : Int) (r : List Int) : Bool := okTo n r r.length && ((r.length : Int) == n)
theorem okTo_down {n : Int} {r : List Int} {j k : Nat} (h : j ≤ k) (hk : okTo n r k = true) : okTo n r j = true := by
  induction h with
  | refl => exact hk
  | step _ ih => exact ih (Bool.and_eq_true_iff.1 hk).1
theorem okTo_no {n : Int} {r : List Int} {k l : Nat} (h : k < l) (e : okTo n r (k + 1) = false) : okTo n r l = false := by
  rcases Bool.eq_false_or_eq_true (okTo n r l) with q | q
  · rw [okTo_down (show k + 1 ≤ l by omega) q] at e; cases e
  · exact q
theorem okTo_iff (n : Int) (r : List Int) (k : Nat) (hk : k ≤ r.length) : okTo n r k = true ↔ (allIn (r.take k) 0 (n - 1) = true ∧ noFix r k = true ∧ (r.take k).Nodup) := by
  induction k with
  | zero => simp [okTo, allIn, noFix]
  | succ k ih =>
    have ih := ih (by omega)
    have e : allIn (r.take (k + 1)) 0 (n - 1) = (allIn (r.take k) 0 (n - 1) && inB (nth r k) 0 (n - 1)) := by
      rw [take_succ_nth (by omega)]
      simp [allIn, List.all_append]
    have e2 : (r.take (k + 1)).Nodup ↔ (r.take k).Nodup ∧ ¬ (nth r k ∈ r.take k) := by
      rw [take_succ_nth (by omega), List.nodup_append]
      simp only [List.mem_singleton]
      constructor
      · rintro ⟨h1, _, h3⟩
        exact ⟨h1, fun hm => h3 _ hm _ rfl rfl⟩
      · rintro ⟨h1, h2⟩
        exact ⟨h1, by simp, fun a ha b hb e => h2 (by rw [← hb, ← e]; exact ha)⟩
    have e3 : ((nth r k == (k : Int)) = ((k : Int) == nth r k)) := Bool.eq_iff_iff.2 ⟨fun h => beq_iff_eq.2 (beq_iff_eq.1 h).symm, fun h => beq_iff_eq.2 (beq_iff_eq.1 h).symm⟩
    have e4 : (!(r.take k).contains (nth r k)) = true ↔ ¬ (nth r k ∈ r.take k) := by
      rw [Bool.not_eq_true', ← List.contains_iff_mem]
      exact ⟨fun h h2 => (by rw [h] at h2; cases h2), fun h => (by simpa using h)⟩
    rw [e, e2, Bool.and_eq_true]
    unfold okTo noFix
    rw [e3, Bool.and_eq_true, Bool.and_eq_true, Bool.and_eq_true, Bool.and_eq_true, ih, e4]
    constructor
    · rintro ⟨⟨a, b, c⟩, ⟨d, f⟩, g⟩
      exact ⟨⟨a, d⟩, ⟨b, f⟩, c, g⟩
    · rintro ⟨⟨a, d⟩, ⟨b, f⟩, c, g⟩
      exact ⟨⟨a, b, c⟩, ⟨d, f⟩, g⟩
theorem roundS_eq (n : Int) (r : List Int) : roundS n r = (rowOk n r && roundI n r) := by
  have h := okTo_iff n r r.length (Nat.le_refl _)
  rw [List.take_length] at h
  have hp := sortTo_perm r r.length (Nat.le_refl _)
  rw [List.take_length] at hp
  have hl := sortTo_len r r.length (Nat.le_refl _)
  have hs := sort_strict r
  rw [Bool.eq_iff_iff]
  unfold roundS rowOk roundI isStrict
  rw [hl, allIn_perm hp]
  simp only [Bool.and_eq_true, h, hs]
  constructor
  · rintro ⟨⟨a, b, c⟩, d⟩
    exact ⟨⟨d, a⟩, ⟨c, a⟩, b⟩
  · rintro ⟨⟨d, a⟩, ⟨c, _⟩, b⟩
    exact ⟨⟨a, b, c⟩, d⟩
def roundsSTo (n : Int) (z : Nat → List Int) : Nat → Bool
  | 0 => true
  | j + 1 => roundsSTo n z j && roundS n (z j)
theorem roundsSTo_eq (n : Int) (z : Nat → List Int) (l : Nat) : roundsSTo n z l = (plansTo n z l && roundsTo n z l) := by
  induction l with
  | zero => rfl
  | succ l ih =>
    simp only [roundsSTo, plansTo, roundsTo, ih, roundS_eq]
    cases plansTo n z l <;> cases roundsTo n z l <;> cases rowOk n (z l) <;> cases roundI n (z l) <;> rfl
theorem roundsSTo_down {n : Int} {z : Nat → List Int} {j l : Nat} (h : j ≤ l) (hl : roundsSTo n z l = true) : roundsSTo n z j = true := by
  induction h with
  | refl => exact hl
  | step _ ih => exact ih (Bool.and_eq_true_iff.1 hl).1
theorem roundsOk_s (n : Int) (z : Nat → List Int) (l : Nat) : roundsOk n z l = (inB n 2 10 && decide (l ≤ 9) && roundsSTo n z l) := by
  unfold roundsOk plansOk
  rw [roundsSTo_eq]
  cases inB n 2 10 <;> cases decide (l ≤ 9) <;> cases plansTo n z l <;> rfl
theorem roundsS_no {n : Int} {z : Nat → List Int} {j l : Nat} (h : j < l) (e : roundS n (z j) = false) : roundsOk n z l = false := by
  rw [roundsOk_s]
  rcases Bool.eq_false_or_eq_true (roundsSTo n z l) with q | q
  · have := roundsSTo_down (show j + 1 ≤ l by omega) q
    simp only [roundsSTo, e, Bool.and_false] at this
    cases this
  · rw [q, Bool.and_false]
/-- what holds of a plan whose rounds are ones -/
structure Rounds (n : Int) (z : Nat → List Int) (l : Nat) : Prop extends Plan n z l where
  nofix : ∀ j, j < l → ∀ i, i < (z j).length → (i : Int) ≠ nth (z j) i
  nodup : ∀ j, j < l → (z j).Nodup
theorem rounds_of {n : Int} {z : Nat → List Int} {l : Nat} (h : roundsOk n z l = true) : Rounds n z l := by
  unfold roundsOk at h
  have h1 := Bool.and_eq_true_iff.1 h
  have hr : ∀ j, j < l → roundI n (z j) = true := fun j hj => (Bool.and_eq_true_iff.1 (roundsTo_down (show j + 1 ≤ l by omega) h1.2)).2
  refine ⟨plan_of h1.1, fun j hj => (noFix_iff _ _).1 (Bool.and_eq_true_iff.1 (hr j hj)).2, fun j hj => ?_⟩
  have h2 := (Bool.and_eq_true_iff.1 (Bool.and_eq_true_iff.1 (hr j hj)).1).1
  rw [sortTo_len _ _ (Nat.le_refl _)] at h2
  exact (sort_strict _).1 h2
/-- which numbers from 0 on have been seen among xs -/
def seenB (n : Nat) (xs : List Int) : List Bool := (List.range n).map fun v : Nat => xs.contains (v : Int)
theorem seenB_len (n : Nat) (xs : List Int) : (seenB n xs).length = n := by simp [seenB]
theorem seenB_nil (n : Nat) : seenB n [] = List.replicate n false := by
  apply List.ext_getElem <;> simp [seenB]
theorem seenB_set {n : Nat} {xs : List Int} {x : Int} (h0 : 0 ≤ x) (hx : x < n) : (seenB n xs).set x.toNat true = seenB n (xs ++ [x]) := by
  apply List.ext_getElem
  · simp [seenB]
  · intro i h1 h2
    rw [List.getElem_set]
    simp only [seenB, List.getElem_map, List.getElem_range]
    by_cases e : x.toNat = i
    · rw [if_pos e]
      have : (i : Int) = x := by omega
      simp [this]
    · rw [if_neg e]
      have : ¬ ((i : Int) = x) := by omega
      rw [Bool.eq_iff_iff]
      simp [this]
end Go.Proofs.Ythenjmjnooaokaa
