/- Plain functions on drawings of lines: the least point of each part, by relaxation and by merging. No program in sight. -/
import Derived.Test.YtkgabnhfjmldbaaPureB
namespace Go.Proofs.Ytkgabnhfjmldbaa
/-- how many of the first n points have a property -/
def cnt (p : Nat → Bool) : Nat → Nat
  | 0 => 0
  | n + 1 => cnt p n + (if p n then 1 else 0)
theorem cnt_le (p : Nat → Bool) (n : Nat) : cnt p n ≤ n := by
  induction n with
  | zero => simp [cnt]
  | succ n ih => simp only [cnt]; split <;> omega
theorem cnt_mono {p q : Nat → Bool} {n : Nat} (h : ∀ i, i < n → p i = true → q i = true) : cnt p n ≤ cnt q n := by
  induction n with
  | zero => simp [cnt]
  | succ n ih =>
    have h1 := ih fun i hi => h i (by omega)
    simp only [cnt]
    by_cases e : p n = true
    · rw [if_pos e, if_pos (h n (by omega) e)]; omega
    · rw [if_neg e]; split <;> omega
theorem cnt_lt {p q : Nat → Bool} {n i : Nat} (h : ∀ i, i < n → p i = true → q i = true) (hi : i < n) (h1 : q i = true) (h2 : p i = false) : cnt p n < cnt q n := by
  induction n with
  | zero => omega
  | succ n ih =>
    simp only [cnt]
    rcases (by omega : i < n ∨ i = n) with e | e
    · have h3 := ih (fun i hi => h i (by omega)) e
      by_cases e2 : p n = true
      · rw [if_pos e2, if_pos (h n (by omega) e2)]; omega
      · rw [if_neg e2]; split <;> omega
    · subst e
      have h3 := cnt_mono (n := i) fun j hj => h j (by omega)
      rw [if_pos h1, if_neg (by rw [h2]; simp)]; omega
theorem cnt_pos {p : Nat → Bool} {n i : Nat} (hi : i < n) (h : p i = true) : 1 ≤ cnt p n := by
  have := cnt_lt (p := fun _ => false) (q := p) (n := n) (i := i) (fun _ _ h => by cases h) hi h rfl
  omega
section
variable (u v : Nat → Nat)
/-- both ends of a line take the lesser label -/
def relax (lab : Nat → Nat) (a b : Nat) : Nat → Nat := fun i => if i = a ∨ i = b then min (lab a) (lab b) else lab i
def relaxTo (lab : Nat → Nat) : Nat → Nat → Nat
  | 0 => lab
  | k + 1 => relax (relaxTo lab k) (u k) (v k)
/-- the labels behind r rounds over all l lines -/
def roundsL (l : Nat) : Nat → Nat → Nat
  | 0 => fun i => i
  | r + 1 => relaxTo u v (roundsL l r) l
/-- all points with the greater label take the lesser one -/
def merge (lab : Nat → Nat) (a b : Nat) : Nat → Nat := fun i => if lab i = max (lab a) (lab b) then min (lab a) (lab b) else lab i
def mergeTo : Nat → Nat → Nat
  | 0 => fun i => i
  | k + 1 => merge (mergeTo k) (u k) (v k)
end
variable {u v : Nat → Nat}
theorem merge_le {lab : Nat → Nat} {a b : Nat} (i : Nat) : merge lab a b i ≤ lab i := by
  unfold merge; split <;> omega
theorem mergeTo_le (k i : Nat) : mergeTo u v k i ≤ i := by
  induction k with
  | zero => exact Nat.le_refl _
  | succ k ih => exact Nat.le_trans (merge_le i) ih
theorem mergeTo_idem (k : Nat) : ∀ i, mergeTo u v k (mergeTo u v k i) = mergeTo u v k i := by
  induction k with
  | zero => intro i; rfl
  | succ k ih =>
    have key : ∀ x, mergeTo u v k x = x → mergeTo u v (k + 1) x = if x = max (mergeTo u v k (u k)) (mergeTo u v k (v k)) then min (mergeTo u v k (u k)) (mergeTo u v k (v k)) else x := by
      intro x hx
      show merge (mergeTo u v k) (u k) (v k) x = _
      unfold merge
      rw [hx]
    intro i
    have e : mergeTo u v (k + 1) i = if mergeTo u v k i = max (mergeTo u v k (u k)) (mergeTo u v k (v k)) then min (mergeTo u v k (u k)) (mergeTo u v k (v k)) else mergeTo u v k i := rfl
    rw [e]
    split
    · have hm : mergeTo u v k (min (mergeTo u v k (u k)) (mergeTo u v k (v k))) = min (mergeTo u v k (u k)) (mergeTo u v k (v k)) := by
        rcases Nat.le_total (mergeTo u v k (u k)) (mergeTo u v k (v k)) with h | h
        · rw [Nat.min_eq_left h]; exact ih _
        · rw [Nat.min_eq_right h]; exact ih _
      rw [key _ hm]
      split
      · rfl
      · rfl
    · rename_i h
      rw [key _ (ih i), if_neg h]
theorem mergeTo_edge (k : Nat) : ∀ j, j < k → mergeTo u v k (u j) = mergeTo u v k (v j) := by
  induction k with
  | zero => intro j hj; omega
  | succ k ih =>
    intro j hj
    show merge (mergeTo u v k) (u k) (v k) (u j) = merge (mergeTo u v k) (u k) (v k) (v j)
    unfold merge
    rcases (by omega : j < k ∨ j = k) with e | e
    · rw [ih j e]
    · subst e
      split
      · split
        · rfl
        · omega
      · split
        · omega
        · omega
theorem mergeTo_const {F : Nat → Nat} (k : Nat) (h : ∀ j, j < k → F (u j) = F (v j)) : ∀ i, F (mergeTo u v k i) = F i := by
  induction k with
  | zero => intro i; rfl
  | succ k ih =>
    have ih := ih fun j hj => h j (by omega)
    intro i
    show F (merge (mergeTo u v k) (u k) (v k) i) = F i
    unfold merge
    split
    · rename_i e
      have h1 := ih (u k)
      have h2 := ih (v k)
      have h3 := h k (by omega)
      have h4 := ih i
      rw [e] at h4
      rcases Nat.le_total (mergeTo u v k (u k)) (mergeTo u v k (v k)) with q | q
      · rw [Nat.min_eq_left q]
        rw [Nat.max_eq_right q] at h4
        omega
      · rw [Nat.min_eq_right q]
        rw [Nat.max_eq_left q] at h4
        omega
    · exact ih i
theorem relax_le {lab : Nat → Nat} {a b : Nat} (i : Nat) : relax lab a b i ≤ lab i := by
  unfold relax
  split
  · rename_i h
    rcases h with h | h
    · rw [h]; exact Nat.min_le_left _ _
    · rw [h]; exact Nat.min_le_right _ _
  · exact Nat.le_refl _
theorem relaxTo_le {lab : Nat → Nat} (k i : Nat) : relaxTo u v lab k i ≤ lab i := by
  induction k with
  | zero => exact Nat.le_refl _
  | succ k ih => exact Nat.le_trans (relax_le i) ih
theorem relaxTo_down {lab : Nat → Nat} {j k : Nat} (h : j ≤ k) (i : Nat) : relaxTo u v lab k i ≤ relaxTo u v lab j i := by
  induction h with
  | refl => exact Nat.le_refl _
  | step _ ih => exact Nat.le_trans (relax_le i) ih
theorem relaxTo_const {F : Nat → Nat} {lab : Nat → Nat} (h0 : ∀ i, F (lab i) = F i) (k : Nat) (h : ∀ j, j < k → F (u j) = F (v j)) : ∀ i, F (relaxTo u v lab k i) = F i := by
  induction k with
  | zero => exact h0
  | succ k ih =>
    have ih := ih fun j hj => h j (by omega)
    intro i
    show F (relax (relaxTo u v lab k) (u k) (v k) i) = F i
    unfold relax
    split
    · rename_i e
      have h1 := ih (u k)
      have h2 := ih (v k)
      have h3 := h k (by omega)
      have hm : F (min (relaxTo u v lab k (u k)) (relaxTo u v lab k (v k))) = F (u k) := by
        rcases Nat.le_total (relaxTo u v lab k (u k)) (relaxTo u v lab k (v k)) with q | q
        · rw [Nat.min_eq_left q]; exact h1
        · rw [Nat.min_eq_right q]; omega
      rw [hm]
      rcases e with e | e
      · rw [e]
      · rw [e]; exact h3
    · exact ih i
theorem roundsL_const {F : Nat → Nat} {l : Nat} (h : ∀ j, j < l → F (u j) = F (v j)) (r : Nat) : ∀ i, F (roundsL u v l r i) = F i := by
  induction r with
  | zero => intro i; rfl
  | succ r ih => exact relaxTo_const ih l h
theorem roundsL_le (l r i : Nat) : roundsL u v l r i ≤ i := by
  induction r with
  | zero => exact Nat.le_refl _
  | succ r ih => exact Nat.le_trans (relaxTo_le l i) ih
theorem rounds_merge {N l : Nat} (hu : ∀ j, j < l → u j < N ∧ v j < N) {i : Nat} (hi : i < N) : roundsL u v l N i = mergeTo u v l i := by
  obtain ⟨M, hM⟩ : ∃ M, M = mergeTo u v l := ⟨_, rfl⟩
  have hMe : ∀ j, j < l → M (u j) = M (v j) := by rw [hM]; exact mergeTo_edge l
  have hMle : ∀ i, M i ≤ i := by rw [hM]; exact mergeTo_le l
  have hMM : ∀ i, M (M i) = M i := by rw [hM]; exact mergeTo_idem l
  have hlow : ∀ r i, M i ≤ roundsL u v l r i := by
    intro r i
    have := hMle (roundsL u v l r i)
    rw [roundsL_const hMe r i] at this
    exact this
  have grow : ∀ r m, m < N → M m = m → (∀ p, p < N → M p = m → roundsL u v l r p = m) ∨ r + 1 ≤ cnt (fun p => roundsL u v l r p == m) N := by
    intro r
    induction r with
    | zero =>
      intro m hm _
      exact Or.inr (cnt_pos hm (by simp [roundsL]))
    | succ r ih =>
      intro m hm hMm
      have keep : ∀ p, roundsL u v l r p = m → roundsL u v l (r + 1) p = m := by
        intro p hp
        have h1 : roundsL u v l (r + 1) p ≤ roundsL u v l r p := relaxTo_le l p
        have h2 := hlow (r + 1) p
        have h3 := roundsL_const hMe r p
        rw [hp, hMm] at h3
        omega
      rcases ih m hm hMm with h | h
      · exact Or.inl fun p hp hq => keep p (h p hp hq)
      · by_cases hc : ∀ p, p < N → M p = m → roundsL u v l r p = m
        · exact Or.inl fun p hp hq => keep p (hc p hp hq)
        · right
          -- some line leaves the set of points with label m
          have hex : ∃ j, j < l ∧ ¬ ((roundsL u v l r (u j) == m) = (roundsL u v l r (v j) == m)) := by
            rcases Classical.em (∃ j, j < l ∧ ¬ ((roundsL u v l r (u j) == m) = (roundsL u v l r (v j) == m))) with q | q
            · exact q
            · exfalso
              apply hc
              intro p hp hpm
              have hF := mergeTo_const (u := u) (v := v) (F := fun x => if (roundsL u v l r x == m) then 1 else 0) l (fun j hj => by
                have : (roundsL u v l r (u j) == m) = (roundsL u v l r (v j) == m) := by
                  rcases Classical.em ((roundsL u v l r (u j) == m) = (roundsL u v l r (v j) == m)) with e | e
                  · exact e
                  · exact absurd ⟨j, hj, e⟩ q
                simp only [this]) p
              rw [← hM] at hF
              simp only [hpm] at hF
              have hmm : roundsL u v l r m = m := by
                have h1 := roundsL_le (u := u) (v := v) l r m
                have h2 := hlow r m
                omega
              rw [hmm] at hF
              simp only [BEq.rfl, if_true] at hF
              by_cases e : (roundsL u v l r p == m) = true
              · exact beq_iff_eq.1 e
              · rw [if_neg e] at hF; cases hF
          obtain ⟨j, hj, hne⟩ := hex
          have hMu : roundsL u v l r (u j) = m ∨ roundsL u v l r (v j) = m := by
            rcases Bool.eq_false_or_eq_true (roundsL u v l r (u j) == m) with a | a
            · exact Or.inl (beq_iff_eq.1 a)
            · rcases Bool.eq_false_or_eq_true (roundsL u v l r (v j) == m) with b | b
              · exact Or.inr (beq_iff_eq.1 b)
              · exact absurd (a.trans b.symm) hne
          have hboth : roundsL u v l (r + 1) (u j) = m ∧ roundsL u v l (r + 1) (v j) = m := by
            have hMj : M (u j) = m ∧ M (v j) = m := by
              have h1 := roundsL_const hMe r (u j)
              have h2 := roundsL_const hMe r (v j)
              have h3 := hMe j hj
              rcases hMu with e | e
              · rw [e, hMm] at h1; omega
              · rw [e, hMm] at h2; omega
            have e1 : relaxTo u v (roundsL u v l r) (j + 1) (u j) ≤ m ∧ relaxTo u v (roundsL u v l r) (j + 1) (v j) ≤ m := by
              have h1 : relaxTo u v (roundsL u v l r) j (u j) ≤ roundsL u v l r (u j) := relaxTo_le j _
              have h2 : relaxTo u v (roundsL u v l r) j (v j) ≤ roundsL u v l r (v j) := relaxTo_le j _
              have e : relaxTo u v (roundsL u v l r) (j + 1) = relax (relaxTo u v (roundsL u v l r) j) (u j) (v j) := rfl
              rw [e]
              unfold relax
              rw [if_pos (Or.inl rfl), if_pos (Or.inr rfl)]
              rcases hMu with h | h <;> omega
            have e2 : roundsL u v l (r + 1) (u j) ≤ m := Nat.le_trans (relaxTo_down (show j + 1 ≤ l by omega) _) e1.1
            have e3 : roundsL u v l (r + 1) (v j) ≤ m := Nat.le_trans (relaxTo_down (show j + 1 ≤ l by omega) _) e1.2
            have h4 := hlow (r + 1) (u j)
            have h5 := hlow (r + 1) (v j)
            omega
          have hlt : cnt (fun p => roundsL u v l r p == m) N < cnt (fun p => roundsL u v l (r + 1) p == m) N := by
            have hk : ∀ i, i < N → (roundsL u v l r i == m) = true → (roundsL u v l (r + 1) i == m) = true := fun i _ h => beq_iff_eq.2 (keep i (beq_iff_eq.1 h))
            rcases Bool.eq_false_or_eq_true (roundsL u v l r (u j) == m) with a | a
            · have b : (roundsL u v l r (v j) == m) = false := by
                rcases Bool.eq_false_or_eq_true (roundsL u v l r (v j) == m) with b | b
                · exact absurd (a.trans b.symm) hne
                · exact b
              exact cnt_lt hk (hu j hj).2 (beq_iff_eq.2 hboth.2) b
            · exact cnt_lt hk (hu j hj).1 (beq_iff_eq.2 hboth.1) a
          omega
  have hMi : M i < N := by have := hMle i; omega
  rw [← hM]
  rcases grow N (M i) hMi (hMM i) with h | h
  · exact h i hi rfl
  · have := cnt_le (fun p => roundsL u v l N p == M i) N
    omega
end Go.Proofs.Ytkgabnhfjmldbaa
