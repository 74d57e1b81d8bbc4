/- Plain functions on layouts of patches: every square is covered once if and only if no two patches overlap and the areas make up the whole. No program in sight. -/
import Derived.Test.YthenjmjnooaokaaPureB
namespace Go.Proofs.Ythenjmjnooaokaa
/-- the sum of the first n values -/
def sumTo (g : Nat → Int) : Nat → Int
  | 0 => 0
  | n + 1 => sumTo g n + g n
theorem sumTo_congr {g h : Nat → Int} {n : Nat} (e : ∀ i, i < n → g i = h i) : sumTo g n = sumTo h n := by
  induction n with
  | zero => rfl
  | succ n ih => simp only [sumTo]; rw [ih fun i hi => e i (by omega), e n (by omega)]
theorem sumTo_add (g h : Nat → Int) (n : Nat) : sumTo (fun i => g i + h i) n = sumTo g n + sumTo h n := by
  induction n with
  | zero => rfl
  | succ n ih => simp only [sumTo]; rw [ih]; omega
theorem sumTo_zero (n : Nat) : sumTo (fun _ => 0) n = 0 := by
  induction n with
  | zero => rfl
  | succ n ih => simp only [sumTo]; rw [ih]; rfl
theorem sumTo_one (n : Nat) : sumTo (fun _ => 1) n = n := by
  induction n with
  | zero => rfl
  | succ n ih => simp only [sumTo]; rw [ih]; omega
theorem sumTo_const (c : Int) (n : Nat) : sumTo (fun _ => c) n = c * n := by
  induction n with
  | zero => simp [sumTo]
  | succ n ih => simp only [sumTo]; rw [ih, Int.natCast_succ, Int.mul_add, Int.mul_one]
theorem sumTo_swap (g : Nat → Nat → Int) (n m : Nat) : sumTo (fun i => sumTo (fun j => g i j) m) n = sumTo (fun j => sumTo (fun i => g i j) n) m := by
  induction n with
  | zero => simp only [sumTo]; rw [sumTo_zero]
  | succ n ih => simp only [sumTo]; rw [ih, ← sumTo_add]
theorem sumTo_nonneg {g : Nat → Int} {n : Nat} (h : ∀ i, i < n → 0 ≤ g i) : 0 ≤ sumTo g n := by
  induction n with
  | zero => simp [sumTo]
  | succ n ih => have h1 := ih fun i hi => h i (by omega); have h2 := h n (by omega); simp only [sumTo]; omega
theorem sumTo_le {g h : Nat → Int} {n : Nat} (e : ∀ i, i < n → g i ≤ h i) : sumTo g n ≤ sumTo h n := by
  induction n with
  | zero => exact Int.le_refl _
  | succ n ih => have h1 := ih fun i hi => e i (by omega); have h2 := e n (by omega); simp only [sumTo]; omega
theorem sumTo_eq {g h : Nat → Int} {n : Nat} (e : ∀ i, i < n → g i ≤ h i) (hs : sumTo g n = sumTo h n) : ∀ i, i < n → g i = h i := by
  induction n with
  | zero => intro i hi; omega
  | succ n ih =>
    have h1 := sumTo_le (g := g) (h := h) (n := n) fun i hi => e i (by omega)
    have h2 := e n (by omega)
    simp only [sumTo] at hs
    intro i hi
    rcases (by omega : i < n ∨ i = n) with q | q
    · exact ih (fun i hi => e i (by omega)) (by omega) i q
    · subst q; omega
theorem sumTo_mul (c : Int) (g : Nat → Int) (n : Nat) : sumTo (fun i => c * g i) n = c * sumTo g n := by
  induction n with
  | zero => simp [sumTo]
  | succ n ih => simp only [sumTo]; rw [ih, Int.mul_add]
/-- how many of the first n numbers lie from a on, w of them -/
def ind (b : Bool) : Int := if b then 1 else 0
def inR (a w : Int) (x : Nat) : Bool := decide (a ≤ (x : Int)) && decide ((x : Int) < a + w)
theorem sum_inR {a w : Int} (ha : 0 ≤ a) (hw : 0 ≤ w) : ∀ n : Nat, sumTo (fun x => ind (inR a w x)) n = if (n : Int) ≤ a then 0 else if (n : Int) ≤ a + w then (n : Int) - a else w := by
  intro n
  induction n with
  | zero => simp [sumTo, ha]
  | succ n ih =>
    have e : ind (inR a w n) = (if a ≤ (n : Int) ∧ (n : Int) < a + w then 1 else 0) := by
      unfold ind inR
      by_cases h1 : a ≤ (n : Int) <;> by_cases h2 : (n : Int) < a + w <;> simp [h1, h2]
    simp only [sumTo, ih, e]
    by_cases h1 : (n : Int) < a
    · rw [if_pos (by omega : (n : Int) ≤ a), if_neg (by omega : ¬ (a ≤ (n : Int) ∧ (n : Int) < a + w)), if_pos (by omega : ((n + 1 : Nat) : Int) ≤ a)]; rfl
    · by_cases h2 : (n : Int) < a + w
      · rw [if_pos (⟨by omega, h2⟩ : a ≤ (n : Int) ∧ (n : Int) < a + w), if_neg (by omega : ¬ ((n + 1 : Nat) : Int) ≤ a), if_pos (by omega : ((n + 1 : Nat) : Int) ≤ a + w)]
        by_cases h3 : (n : Int) ≤ a
        · rw [if_pos h3]; omega
        · rw [if_neg h3, if_pos (by omega : (n : Int) ≤ a + w)]; omega
      · rw [if_neg (by omega : ¬ (a ≤ (n : Int) ∧ (n : Int) < a + w)), if_neg (by omega : ¬ ((n + 1 : Nat) : Int) ≤ a + w), Int.add_zero]
        by_cases h3 : (n : Int) ≤ a
        · rw [if_pos h3]
          by_cases h4 : ((n + 1 : Nat) : Int) ≤ a
          · rw [if_pos h4]
          · rw [if_neg h4]; omega
        · rw [if_neg h3, if_neg (by omega : ¬ ((n + 1 : Nat) : Int) ≤ a)]
          by_cases h4 : (n : Int) ≤ a + w
          · rw [if_pos h4]; omega
          · rw [if_neg h4]
theorem sum_inR_all {a w : Int} {n : Nat} (ha : 0 ≤ a) (hw : 1 ≤ w) (hn : a + w ≤ n) : sumTo (fun x => ind (inR a w x)) n = w := by
  rw [sum_inR ha (by omega), if_neg (by omega)]
  split <;> omega
theorem ind_and (p q : Bool) : ind (p && q) = ind p * ind q := by cases p <;> cases q <;> rfl
theorem ind_bd (p : Bool) : 0 ≤ ind p ∧ ind p ≤ 1 := by cases p <;> simp [ind]
section
variable (f : Nat → Nat → Int)
/-- does patch k cover a square? -/
def covers (k x y : Nat) : Bool := inR (f k 0) (f k 2) x && inR (f k 1) (f k 3) y
/-- how many of the first k patches cover a square -/
def coverN (x y : Nat) : Nat → Int
  | 0 => 0
  | k + 1 => coverN x y k + ind (covers f k x y)
theorem coverN_sum (x y k : Nat) : coverN f x y k = sumTo (fun i => ind (covers f i x y)) k := by
  induction k with
  | zero => rfl
  | succ k ih => simp only [coverN, sumTo, ih]
theorem coverN_bd (x y k : Nat) : 0 ≤ coverN f x y k ∧ coverN f x y k ≤ k := by
  induction k with
  | zero => simp [coverN]
  | succ k ih => have := ind_bd (covers f k x y); simp only [coverN]; omega
/-- do the patches i and k overlap? -/
def overlap (k i : Nat) : Bool := decide (f k 0 < f i 0 + f i 2) && decide (f i 0 < f k 0 + f k 2) && decide (f k 1 < f i 1 + f i 3) && decide (f i 1 < f k 1 + f k 3)
def areaTo : Nat → Int
  | 0 => 0
  | k + 1 => areaTo k + f k 2 * f k 3
end
variable {f : Nat → Nat → Int} {W H n : Nat}
/-- what holds of patches that lie within W times H -/
def Within (f : Nat → Nat → Int) (W H n : Nat) : Prop := ∀ k, k < n → 0 ≤ f k 0 ∧ 1 ≤ f k 2 ∧ f k 0 + f k 2 ≤ W ∧ 0 ≤ f k 1 ∧ 1 ≤ f k 3 ∧ f k 1 + f k 3 ≤ H
theorem area_sum (h : Within f W H n) : ∀ k, k ≤ n → sumTo (fun y => sumTo (fun x => coverN f x y k) W) H = areaTo f k := by
  intro k
  induction k with
  | zero =>
    intro _
    simp only [coverN, areaTo]
    rw [sumTo_congr (h := fun _ => 0) fun y _ => sumTo_zero W, sumTo_zero]
  | succ k ih =>
    intro hk
    obtain ⟨a1, a2, a3, a4, a5, a6⟩ := h k (by omega)
    have e1 : sumTo (fun y => sumTo (fun x => coverN f x y (k + 1)) W) H = sumTo (fun y => sumTo (fun x => coverN f x y k) W + sumTo (fun x => ind (covers f k x y)) W) H := by
      apply sumTo_congr
      intro y _
      rw [← sumTo_add]
      rfl
    rw [e1, sumTo_add, ih (by omega)]
    have e2 : sumTo (fun y => sumTo (fun x => ind (covers f k x y)) W) H = sumTo (fun y => f k 2 * ind (inR (f k 1) (f k 3) y)) H := by
      apply sumTo_congr
      intro y _
      rw [sumTo_congr (h := fun x => ind (inR (f k 1) (f k 3) y) * ind (inR (f k 0) (f k 2) x)) fun x _ => by unfold covers; rw [ind_and, Int.mul_comm], sumTo_mul, sum_inR_all a1 a2 a3, Int.mul_comm]
    rw [e2, sumTo_mul, sum_inR_all a4 a5 a6]
    rfl
theorem cover_two (x y : Nat) {i k : Nat} : ∀ n, i < k → k < n → covers f i x y = true → covers f k x y = true → 2 ≤ coverN f x y n := by
  intro n hik hkn hi hk
  have one : ∀ m, i < m → 1 ≤ coverN f x y m := by
    intro m
    induction m with
    | zero => intro h; omega
    | succ m ih =>
      intro h
      have := ind_bd (covers f m x y)
      simp only [coverN]
      rcases (by omega : i < m ∨ i = m) with q | q
      · have := ih q; omega
      · subst q
        have := coverN_bd f x y i
        rw [hi]
        simp [ind]
        omega
  induction n with
  | zero => omega
  | succ n ih =>
    have h1 := ind_bd (covers f n x y)
    simp only [coverN]
    rcases (by omega : k < n ∨ k = n) with q | q
    · have := ih q; omega
    · subst q
      have := one k hik
      rw [hk]
      simp [ind]
      omega
theorem cover_le {x y : Nat} : ∀ n, (∀ k, k < n → ∀ i, i < k → ¬ (covers f i x y = true ∧ covers f k x y = true)) → coverN f x y n ≤ 1 := by
  intro n
  have zero : ∀ m, (∀ i, i < m → covers f i x y = false) → coverN f x y m = 0 := by
    intro m
    induction m with
    | zero => intro _; rfl
    | succ m ih =>
      intro h
      simp only [coverN]
      rw [ih fun i hi => h i (by omega), h m (by omega)]
      rfl
  induction n with
  | zero => intro _; simp [coverN]
  | succ n ih =>
    intro h
    have h1 := ih fun k hk i hi => h k (by omega) i hi
    simp only [coverN]
    rcases Bool.eq_false_or_eq_true (covers f n x y) with q | q
    · rw [zero n fun i hi => by
        rcases Bool.eq_false_or_eq_true (covers f i x y) with e | e
        · exact absurd ⟨e, q⟩ (h n (by omega) i hi)
        · exact e]
      rw [q]
      simp [ind]
    · rw [q]
      simp only [ind]
      simpa using h1
theorem inR_iff {a w : Int} {x : Nat} : inR a w x = true ↔ a ≤ (x : Int) ∧ (x : Int) < a + w := by simp [inR]
theorem covers_overlap {i k x y : Nat} (hi : covers f i x y = true) (hk : covers f k x y = true) : overlap f k i = true := by
  unfold covers at hi hk
  rw [Bool.and_eq_true, inR_iff, inR_iff] at hi hk
  unfold overlap
  rw [decide_eq_true (by omega), decide_eq_true (by omega), decide_eq_true (by omega), decide_eq_true (by omega)]
  rfl
theorem overlap_covers (h : Within f W H n) {i k : Nat} (hi : i < n) (hk : k < n) (e : overlap f k i = true) : ∃ x y : Nat, x < W ∧ y < H ∧ covers f i x y = true ∧ covers f k x y = true := by
  obtain ⟨a1, a2, a3, a4, a5, a6⟩ := h i hi
  obtain ⟨b1, b2, b3, b4, b5, b6⟩ := h k hk
  unfold overlap at e
  simp only [Bool.and_eq_true, decide_eq_true_eq] at e
  obtain ⟨⟨⟨e1, e2⟩, e3⟩, e4⟩ := e
  refine ⟨(max (f i 0) (f k 0)).toNat, (max (f i 1) (f k 1)).toNat, by omega, by omega, ?_, ?_⟩
  · unfold covers
    rw [Bool.and_eq_true, inR_iff, inR_iff]
    omega
  · unfold covers
    rw [Bool.and_eq_true, inR_iff, inR_iff]
    omega
/-- every square is covered once -/
def tiled (f : Nat → Nat → Int) (W H n : Nat) : Prop := ∀ y, y < H → ∀ x, x < W → coverN f x y n = 1
theorem tiled_iff (h : Within f W H n) : tiled f W H n ↔ (∀ k, k < n → ∀ i, i < k → overlap f k i = false) ∧ areaTo f n = (W : Int) * H := by
  have hs := area_sum h n (Nat.le_refl _)
  have e1 : sumTo (fun _ => sumTo (fun _ => (1 : Int)) W) H = (W : Int) * H := by
    rw [sumTo_congr (h := fun _ => (W : Int)) fun _ _ => sumTo_one W, sumTo_const]
  constructor
  · intro ht
    refine ⟨fun k hk i hi => ?_, ?_⟩
    · rcases Bool.eq_false_or_eq_true (overlap f k i) with e | e
      · obtain ⟨x, y, hx, hy, c1, c2⟩ := overlap_covers h (by omega : i < n) hk e
        have h1 := cover_two (f := f) x y n hi hk c1 c2
        have h2 := ht y hy x hx
        omega
      · exact e
    · rw [← hs, ← e1]
      exact sumTo_congr fun y hy => sumTo_congr fun x hx => ht y hy x hx
  · rintro ⟨hd, ha⟩
    have hle : ∀ x y, coverN f x y n ≤ 1 := fun x y => cover_le n fun k hk i hi ⟨c1, c2⟩ => by
      have := covers_overlap c1 c2
      rw [hd k hk i hi] at this
      cases this
    rw [ha, ← e1] at hs
    intro y hy x hx
    have h1 := sumTo_eq (fun y _ => sumTo_le (n := W) fun x _ => hle x y) hs y hy
    exact sumTo_eq (fun x _ => hle x y) h1 x hx
end Go.Proofs.Ythenjmjnooaokaa
