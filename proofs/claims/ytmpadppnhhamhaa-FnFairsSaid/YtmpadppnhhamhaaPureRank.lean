/- Plain functions: the ranking of quilts by two lists of points: insertion from behind. No program in sight. -/
import Derived.Test.YtmpadppnhhamhaaPureU
namespace Go.Proofs.Ytmpadppnhhamhaa
/-- x has fewer points than i, or as many and a lower sum -/
def worse (a b : List Int) (i x : Nat) : Bool := decide (nth a x < nth a i) || (decide (nth a x = nth a i) && decide (nth b x < nth b i))
/-- how far i goes down from place k of a list -/
def downTo (a b : List Int) (xs : List Int) (i : Nat) : Nat → Nat
  | 0 => 0
  | k + 1 => if worse a b i (nth xs k).toNat then downTo a b xs i k else k + 1
theorem downTo_le (a b xs : List Int) (i k : Nat) : downTo a b xs i k ≤ k := by
  induction k with
  | zero => simp [downTo]
  | succ k ih => simp only [downTo]; split <;> omega
theorem downTo_yes {a b xs : List Int} {i k : Nat} (hk : 0 < k) (h : worse a b i (nth xs (k - 1)).toNat = true) : downTo a b xs i k = downTo a b xs i (k - 1) := by
  obtain ⟨j, rfl⟩ : ∃ j, k = j + 1 := ⟨k - 1, by omega⟩
  simp only [Nat.add_sub_cancel] at h ⊢
  simp only [downTo, h, if_true]
theorem downTo_no {a b xs : List Int} {i k : Nat} (hk : 0 < k) (h : worse a b i (nth xs (k - 1)).toNat = false) : downTo a b xs i k = k := by
  obtain ⟨j, rfl⟩ : ∃ j, k = j + 1 := ⟨k - 1, by omega⟩
  simp only [Nat.add_sub_cancel] at h
  simp only [downTo, h, if_false]
  simp
/-- x comes in at place p -/
def insAt (xs : List Int) (p : Nat) (x : Int) : List Int := xs.take p ++ x :: xs.drop p
theorem insAt_len (xs : List Int) {p : Nat} (x : Int) (hp : p ≤ xs.length) : (insAt xs p x).length = xs.length + 1 := by simp [insAt]; omega
theorem insAt_end (xs : List Int) (x : Int) : insAt xs xs.length x = xs ++ [x] := by simp [insAt]
theorem insAt_mem {xs : List Int} {p : Nat} {x y : Int} (h : y ∈ insAt xs p x) : y = x ∨ y ∈ xs := by
  unfold insAt at h
  rcases List.mem_append.1 h with h | h
  · exact Or.inr (List.mem_of_mem_take h)
  · rcases List.mem_cons.1 h with h | h
    · exact Or.inl h
    · exact Or.inr (List.mem_of_mem_drop h)
/-- the reference's step: the hole at place p + 1 takes what stands at p, and is then at p -/
theorem insAt_down (xs : List Int) {p : Nat} (x y : Int) (hp : p < xs.length) : (insAt xs (p + 1) x).set (p + 1) (nth xs p) = insAt xs p (nth xs p) := by
  unfold insAt
  rw [take_succ_nth hp, List.drop_eq_getElem_cons hp, ← nth_eq hp, List.append_assoc]
  rw [List.set_append_right _ _ (by simp; omega)]
  simp only [List.length_take, Nat.min_eq_left (Nat.le_of_lt hp)]
  rw [show p + 1 - p = 1 by omega]
  rfl
theorem insAt_set (xs : List Int) {p : Nat} (x y : Int) (hp : p ≤ xs.length) : (insAt xs p x).set p y = insAt xs p y := by
  unfold insAt
  rw [List.set_append_right _ _ (by simp; omega)]
  simp only [List.length_take, Nat.min_eq_left hp, Nat.sub_self]
  rfl
theorem nth_insAt_lt {xs : List Int} {p j : Nat} {x : Int} (hp : p ≤ xs.length) (hj : j < p) : nth (insAt xs p x) j = nth xs j := by
  unfold insAt
  rw [nth_append_l (by simp; omega), nth_take hj]
/-- the first i quilts in order -/
def rankTo (a b : List Int) : Nat → List Int
  | 0 => []
  | i + 1 => insAt (rankTo a b i) (downTo a b (rankTo a b i) i (rankTo a b i).length) i
theorem rankTo_len (a b : List Int) (i : Nat) : (rankTo a b i).length = i := by
  induction i with
  | zero => rfl
  | succ i ih => simp only [rankTo]; rw [insAt_len _ _ (downTo_le _ _ _ _ _), ih]
theorem rankTo_bd (a b : List Int) (i : Nat) : ∀ x ∈ rankTo a b i, 0 ≤ x ∧ x < i := by
  induction i with
  | zero => simp [rankTo]
  | succ i ih =>
    intro x hx
    simp only [rankTo] at hx
    rcases insAt_mem hx with rfl | hx
    · omega
    · have := ih x hx; omega
theorem rankTo_nth (a b : List Int) {i j : Nat} (hj : j < i) : 0 ≤ nth (rankTo a b i) j ∧ nth (rankTo a b i) j < i := rankTo_bd a b i _ (nth_mem (by rw [rankTo_len]; exact hj))
def rankOf (z : Nat → List Int) (n : Nat) : List Int := rankTo (trimmedOf z n) (totalsOf z n) (trimmedOf z n).length
end Go.Proofs.Ytmpadppnhhamhaa
