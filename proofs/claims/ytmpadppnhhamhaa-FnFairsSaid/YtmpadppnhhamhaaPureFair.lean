/- Plain facts of the law FnFairs: the ranking is sorted and holds each quilt once; at most one quilt beats all others. No program in sight. -/
import Derived.Test.YtmpadppnhhamhaaPureRank
import Derived.Test.YtmpadppnhhamhaaPureX
namespace Go.Proofs.Ytmpadppnhhamhaa
theorem worse_asymm {a b : List Int} {i x : Nat} (h : worse a b i x = true) : worse a b x i = false := by
  simp only [worse, Bool.or_eq_true, Bool.and_eq_true, decide_eq_true_eq] at h
  simp only [worse, Bool.or_eq_false_iff, Bool.and_eq_false_iff, decide_eq_false_iff_not]
  omega
theorem downTo_stop {a b xs : List Int} {i : Nat} : ∀ k, 0 < downTo a b xs i k → worse a b i (nth xs (downTo a b xs i k - 1)).toNat = false := by
  intro k
  induction k with
  | zero => simp [downTo]
  | succ k ih =>
    rcases Bool.eq_false_or_eq_true (worse a b i (nth xs k).toNat) with h | h
    · rw [show downTo a b xs i (k + 1) = downTo a b xs i k by simp [downTo, h]]
      exact ih
    · rw [show downTo a b xs i (k + 1) = k + 1 by simp [downTo, h]]
      intro _
      exact h
theorem downTo_all {a b xs : List Int} {i : Nat} : ∀ k j, downTo a b xs i k ≤ j → j < k → worse a b i (nth xs j).toNat = true := by
  intro k
  induction k with
  | zero => intro j _ h; omega
  | succ k ih =>
    intro j h1 h2
    rcases Bool.eq_false_or_eq_true (worse a b i (nth xs k).toNat) with h | h
    · rw [show downTo a b xs i (k + 1) = downTo a b xs i k by simp [downTo, h]] at h1
      rcases (by omega : j = k ∨ j < k) with rfl | e
      · exact h
      · exact ih j h1 e
    · rw [show downTo a b xs i (k + 1) = k + 1 by simp [downTo, h]] at h1
      omega
theorem nth_insAt_eq {xs : List Int} {p : Nat} {x : Int} (hp : p ≤ xs.length) : nth (insAt xs p x) p = x := by
  unfold insAt
  rw [nth_append_r (by simp; omega)]
  simp only [List.length_take, Nat.min_eq_left hp, Nat.sub_self]
  rfl
theorem nth_insAt_gt {xs : List Int} {p j : Nat} {x : Int} (hp : p ≤ xs.length) (hj : p ≤ j) : nth (insAt xs p x) (j + 1) = nth xs j := by
  unfold insAt
  rw [nth_append_r (by simp; omega)]
  simp only [List.length_take, Nat.min_eq_left hp]
  rw [show j + 1 - p = (j - p) + 1 by omega]
  simp only [nth, List.getD_cons_succ]
  simp only [List.getD, List.getElem?_drop]
  rw [show p + (j - p) = j by omega]
def Sorted (a b xs : List Int) : Prop := ∀ j, j + 1 < xs.length → worse a b (nth xs (j + 1)).toNat (nth xs j).toNat = false
theorem sorted_ins {a b xs : List Int} {p i : Nat} (h : Sorted a b xs) (hp : p ≤ xs.length) (h1 : 0 < p → worse a b i (nth xs (p - 1)).toNat = false) (h2 : p < xs.length → worse a b i (nth xs p).toNat = true) : Sorted a b (insAt xs p i) := by
  intro j hj
  rw [insAt_len _ _ hp] at hj
  rcases (by omega : j + 1 < p ∨ j + 1 = p ∨ j = p ∨ p < j) with e | e | e | e
  · rw [nth_insAt_lt hp e, nth_insAt_lt hp (by omega)]
    exact h j (by omega)
  · subst e
    rw [nth_insAt_eq hp, nth_insAt_lt hp (by omega)]
    exact h1 (by omega)
  · subst e
    rw [nth_insAt_eq hp, nth_insAt_gt hp (Nat.le_refl _)]
    exact worse_asymm (h2 (by omega))
  · obtain ⟨q, rfl⟩ : ∃ q, j = q + 1 := ⟨j - 1, by omega⟩
    rw [nth_insAt_gt hp (by omega), nth_insAt_gt hp (by omega)]
    exact h q (by omega)
theorem rank_sorted (a b : List Int) (i : Nat) : Sorted a b (rankTo a b i) := by
  induction i with
  | zero => intro j hj; simp [rankTo] at hj
  | succ i ih =>
    simp only [rankTo]
    exact sorted_ins ih (downTo_le _ _ _ _ _) (downTo_stop _) (fun h => downTo_all _ _ (Nat.le_refl _) h)
theorem insAt_mem' {xs : List Int} {p : Nat} {x y : Int} (h : y = x ∨ y ∈ xs) : y ∈ insAt xs p x := by
  unfold insAt
  rcases h with rfl | h
  · simp
  · rw [← List.take_append_drop p xs] at h
    rcases List.mem_append.1 h with h | h
    · exact List.mem_append.2 (.inl h)
    · exact List.mem_append.2 (.inr (List.mem_cons_of_mem _ h))
theorem rank_has (a b : List Int) (i x : Nat) (h : x < i) : (x : Int) ∈ rankTo a b i := by
  induction i with
  | zero => omega
  | succ i ih =>
    simp only [rankTo]
    rcases (by omega : x = i ∨ x < i) with rfl | e
    · exact insAt_mem' (.inl rfl)
    · exact insAt_mem' (.inr (ih e))
/-- the bits of the first k numbers -/
def seenTo (o : List Int) : Nat → Nat
  | 0 => 0
  | k + 1 => seenTo o k ||| 2 ^ (nth o k).toNat
theorem seen_bit (o : List Int) (x k : Nat) : (seenTo o k).testBit x = true ↔ ∃ j, j < k ∧ (nth o j).toNat = x := by
  induction k with
  | zero => simp [seenTo]
  | succ k ih =>
    simp only [seenTo, Nat.testBit_or, Bool.or_eq_true, Nat.testBit_two_pow, decide_eq_true_eq, ih]
    constructor
    · rintro (⟨j, hj, e⟩ | e)
      · exact ⟨j, by omega, e⟩
      · exact ⟨k, by omega, e⟩
    · rintro ⟨j, hj, e⟩
      rcases (by omega : j < k ∨ j = k) with h | rfl
      · exact .inl ⟨j, h, e⟩
      · exact .inr e
theorem seen_lt (a b : List Int) (m k : Nat) (hk : k ≤ m) : seenTo (rankTo a b m) k < 2 ^ m := by
  induction k with
  | zero => exact Nat.two_pow_pos m
  | succ k ih =>
    have h1 := ih (by omega)
    have h2 := rankTo_nth a b (show k < m by omega)
    exact Nat.or_lt_two_pow h1 (Nat.pow_lt_pow_right (by omega) (by omega))
theorem seen_full (a b : List Int) (m : Nat) : seenTo (rankTo a b m) m = 2 ^ m - 1 := by
  apply Nat.eq_of_testBit_eq
  intro x
  rw [Nat.testBit_two_pow_sub_one, Bool.eq_iff_iff, seen_bit, decide_eq_true_eq]
  constructor
  · rintro ⟨j, hj, e⟩
    have := rankTo_nth a b hj
    omega
  · intro h
    obtain ⟨j, hj, e⟩ := List.getElem_of_mem (rank_has a b m x h)
    have hj' := hj
    rw [rankTo_len] at hj
    refine ⟨j, hj, ?_⟩
    rw [nth_eq hj', e]
    omega
theorem margin_neg (z : Nat → List Int) (i k n : Nat) : margin z k i n = - margin z i k n := by
  induction n with
  | zero => rfl
  | succ n ih =>
    simp only [margin, ih]
    split <;> split <;> (try split) <;> omega
theorem beats_anti (z : Nat → List Int) (n i k : Nat) (h : beats z n i k = true) : beats z n k i = false := by
  simp only [beats, Bool.and_eq_true, decide_eq_true_eq] at h
  have e := margin_neg z i k n
  have h2 := h.2
  simp only [Int.toNat_natCast] at h2
  simp only [beats, Bool.and_eq_false_iff, decide_eq_false_iff_not, Int.toNat_natCast]
  exact .inr (by omega)
theorem beats_self (z : Nat → List Int) (n k : Nat) : beats z n k k = false := by
  rcases Bool.eq_false_or_eq_true (beats z n k k) with h | h
  · exact beats_anti z n k k h
  · exact h
theorem beatAll_iff (z : Nat → List Int) (n i m : Nat) : beatAll z n i m = true ↔ ∀ j, j < m → i ≠ j → beats z n i j = true := by
  induction m with
  | zero => simp [beatAll]
  | succ m ih =>
    simp only [beatAll, Bool.and_eq_true, Bool.or_eq_true, beq_iff_eq, ih]
    constructor
    · rintro ⟨h1, h2⟩ j hj hne
      rcases (by omega : j < m ∨ j = m) with e | rfl
      · exact h1 j e hne
      · rcases h2 with h2 | h2
        · exact absurd (by omega) hne
        · exact h2
    · intro h
      refine ⟨fun j hj hne => h j (by omega) hne, ?_⟩
      by_cases e : i = m
      · exact .inl (by omega)
      · exact .inr (h m (by omega) e)
theorem winGo_cases (z : Nat → List Int) (n m : Nat) : ∀ r, r ≤ m → (winGo z n m r = -1 ∧ ∀ i, m - r ≤ i → i < m → beatAll z n i m = false) ∨ ∃ i : Nat, i < m ∧ winGo z n m r = (i : Int) ∧ beatAll z n i m = true := by
  intro r
  induction r with
  | zero => intro _; exact .inl ⟨rfl, fun i h1 h2 => by omega⟩
  | succ r ih =>
    intro hr
    rcases Bool.eq_false_or_eq_true (beatAll z n (m - (r + 1)) m) with h | h
    · exact .inr ⟨m - (r + 1), by omega, by simp only [winGo, h, if_true], h⟩
    · have e : winGo z n m (r + 1) = winGo z n m r := by simp [winGo, h]
      rw [e]
      rcases ih (by omega) with ⟨h1, h2⟩ | h1
      · refine .inl ⟨h1, fun i h3 h4 => ?_⟩
        rcases (by omega : i = m - (r + 1) ∨ m - r ≤ i) with rfl | e2
        · exact h
        · exact h2 i e2 h4
      · exact .inr h1
/-- how many of the first k quilts quilt i beats -/
def beatN (z : Nat → List Int) (n i : Nat) : Nat → Nat
  | 0 => 0
  | k + 1 => beatN z n i k + (if beats z n i k then 1 else 0)
theorem beatN_le (z : Nat → List Int) (n i k : Nat) : beatN z n i k + (if i < k then 1 else 0) ≤ k ∧ (beatN z n i k + (if i < k then 1 else 0) = k → beatAll z n i k = true) := by
  induction k with
  | zero => simp [beatN, beatAll]
  | succ k ih =>
    simp only [beatN, beatAll]
    obtain ⟨h1, h2⟩ := ih
    by_cases e : i = k
    · subst e
      rw [beats_self]
      simp only [Nat.lt_irrefl, if_false, Nat.add_zero] at h1 h2
      refine ⟨by simp; omega, fun h => ?_⟩
      simp at h
      simp [h2 h]
    · have e1 : ((i : Int) == (k : Int)) = false := beq_eq_false_iff_ne.2 (by omega)
      rw [e1]
      by_cases e2 : i < k
      · simp only [e2, if_true] at h1 h2
        rw [if_pos (by omega : i < k + 1)]
        rcases Bool.eq_false_or_eq_true (beats z n i k) with hb | hb
        · simp only [hb, if_true]
          exact ⟨by omega, fun h => by simp [h2 (by omega)]⟩
        · simp only [hb]
          exact ⟨by simp; omega, fun h => by simp at h; omega⟩
      · simp only [e2, if_false, Nat.add_zero] at h1 h2
        rw [if_neg (by omega : ¬ i < k + 1)]
        rcases Bool.eq_false_or_eq_true (beats z n i k) with hb | hb
        · simp only [hb, if_true]
          exact ⟨by omega, fun h => by simp [h2 (by omega)]⟩
        · simp only [hb]
          exact ⟨by simp; omega, fun h => by simp at h; omega⟩
/-- All that the law FnFairs asks of a good sheet of n rows of length m. -/
structure Fair (z : Nat → List Int) (n m : Nat) (t r o : List Int) (W : Int) : Prop where
  tl : t.length = m
  rl : r.length = m
  ol : o.length = m
  tk : ∀ k, k < m → nth t k = colSum z n k
  cs : ∀ j, j ≤ n → ∀ k, k < m → 0 ≤ colSum z j k ∧ colSum z j k ≤ 900
  rt : ∀ k, k < m → nth r k ≤ nth t k
  rb : ∀ k, k < m → -200 ≤ nth r k ∧ nth r k ≤ 900
  r3 : n < 3 → ∀ k, k < m → nth r k = nth t k
  ob : ∀ k, k < m → 0 ≤ nth o k ∧ nth o k < m
  srt : ∀ k, 0 < k → k < m → nth r (nth o k).toNat ≤ nth r (nth o (k - 1)).toNat
  sn : seenTo o m = 2 ^ m - 1
  sl : ∀ k, k ≤ m → seenTo o k < 2 ^ m
  win : (W = -1 ∧ ∀ i, i < m → beatN z n i m ≠ m - 1) ∨ ∃ i : Nat, i < m ∧ W = (i : Int) ∧ ∀ j, j < m → i ≠ j → beats z n i j = true
theorem fair_of {z : Nat → List Int} {n m : Nat} (hO : sheetOk z n = true) (hm : (z 0).length = m) : Fair z n m (totalsOf z n) (trimmedOf z n) (rankOf z n) (winner z n) := by
  have hS : Sheet z n m := by rw [← hm]; exact sheetOk_t hO
  have n9 := hS.n9
  have ht : totalsOf z n = totals z m n := by simp [totalsOf, hO, hm]
  have hr : trimmedOf z n = if n < 3 then totals z m n else trims z m n := by simp [trimmedOf, hO, hm]
  have hrl : (trimmedOf z n).length = m := by rw [hr]; split <;> simp [totals_len, trims_len]
  have ho : rankOf z n = rankTo (trimmedOf z n) (totalsOf z n) m := by unfold rankOf; rw [hrl]
  have hw : winner z n = winGo z n m m := by simp [winner, hO, hm]
  have htk : ∀ k, k < m → nth (totalsOf z n) k = colSum z n k := fun k hk => by rw [ht, nth_totals hk]
  have hcs : ∀ j, j ≤ n → ∀ k, k < m → 0 ≤ colSum z j k ∧ colSum z j k ≤ 900 := fun j hj k hk => by have := colSum_bd hS hk j hj; omega
  have hr3 : n < 3 → ∀ k, k < m → nth (trimmedOf z n) k = nth (totalsOf z n) k := fun h k hk => by rw [hr, if_pos h, ht]
  refine ⟨by rw [ht, totals_len], hrl, by rw [ho, rankTo_len], htk, hcs, fun k hk => ?_, fun k hk => ?_, hr3, fun k hk => ?_, fun k k0 hk => ?_, by rw [ho]; exact seen_full _ _ _, fun k hk => by rw [ho]; exact seen_lt _ _ _ _ hk, ?_⟩
  · by_cases h : n < 3
    · rw [hr3 h k hk]; exact Int.le_refl _
    · rw [htk k hk, hr, if_neg h, nth_trims hk]
      have h2 := low_bd hS hk n (Nat.le_refl _)
      have h3 := high_bd hS hk n (Nat.le_refl _)
      unfold trim1
      omega
  · by_cases h : n < 3
    · rw [hr3 h k hk, htk k hk]; have := hcs n (Nat.le_refl _) k hk; omega
    · rw [hr, if_neg h, nth_trims hk]; exact trim1_bd hS hk
  · rw [ho]; exact rankTo_nth _ _ hk
  · rw [ho]
    have := rank_sorted (trimmedOf z n) (totalsOf z n) m (k - 1) (by rw [rankTo_len]; omega)
    rw [show k - 1 + 1 = k by omega] at this
    simp only [worse, Bool.or_eq_false_iff, decide_eq_false_iff_not] at this
    omega
  · rw [hw]
    rcases winGo_cases z n m m (Nat.le_refl _) with ⟨h1, h2⟩ | ⟨i, h1, h2, h3⟩
    · refine .inl ⟨h1, fun i hi e => ?_⟩
      have h3 := h2 i (by omega) hi
      have h4 := (beatN_le z n i m).2 (by rw [if_pos hi]; omega)
      rw [h3] at h4
      cases h4
    · exact .inr ⟨i, h1, h2, (beatAll_iff z n i m).1 h3⟩
theorem sheetOk_mk {z : Nat → List Int} {n m : Nat} (n1 : 1 ≤ n) (n9 : n ≤ 9) (m1 : 1 ≤ m) (m12 : m ≤ 12) (hl : ∀ j, j < n → (z j).length = m) (hb : ∀ j, j < n → ∀ x ∈ z j, 0 ≤ x ∧ x ≤ 100) : sheetOk z n = true := by
  have hin : ∀ {x a b : Int}, a ≤ x → x ≤ b → inB x a b = true := fun h1 h2 => by unfold inB; simp [h1, h2]
  unfold sheetOk rowsOk
  rw [Bool.and_eq_true, List.all_eq_true]
  refine ⟨fun k hk => ?_, hin (by omega) (by omega)⟩
  have hk' := List.mem_range.1 hk
  unfold rowOk
  rw [hl k hk', hl 0 (by omega), Bool.and_eq_true, Bool.and_eq_true]
  refine ⟨⟨by simp, hin (by omega) (by omega)⟩, ?_⟩
  unfold allIn
  rw [List.all_eq_true]
  intro x hx
  have := hb k hk' x hx
  exact hin this.1 this.2
theorem win_one : winner (fun _ => [4]) 1 = 0 := by decide +kernel
end Go.Proofs.Ytmpadppnhhamhaa
