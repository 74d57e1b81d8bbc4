/- Plain functions: the pairs of colors of a block, their sum of contrasts and their least contrast. No program in sight. -/
import Derived.Test.YthenjmjnooaokaaPureG
import Derived.Test.YthenjmjnooaokaaPureBl
import Derived.Test.YthenjmjnooaokaaPureZ
namespace Go.Proofs.Ythenjmjnooaokaa
/-- the pairs of colors that the place (x, y) adds: its own, to the right, below -/
def prs0 (f : Nat → Nat → Int) (k : Nat) : List (List Int) := [[f k 1, f k 2]]
def prsR (f : Nat → Nat → Int) (k : Nat) : List (List Int) := [[colorAt (f k) 2, colorAt (f (k + 1)) 0]]
def prsB (s : Nat) (f : Nat → Nat → Int) (k : Nat) : List (List Int) := [[colorAt (f k) 3, colorAt (f (k + s)) 1]]
def prsAt (s : Nat) (f : Nat → Nat → Int) (y x : Nat) : List (List Int) :=
  prs0 f (y * s + x) ++ (if x + 1 < s then prsR f (y * s + x) else []) ++ (if y + 1 < s then prsB s f (y * s + x) else [])
def prsRow (s : Nat) (f : Nat → Nat → Int) (y : Nat) : Nat → List (List Int)
  | 0 => []
  | x + 1 => prsRow s f y x ++ prsAt s f y x
def prs (s : Nat) (f : Nat → Nat → Int) : Nat → List (List Int)
  | 0 => []
  | y + 1 => prs s f y ++ prsRow s f y s
theorem prsAt_len (s : Nat) (f : Nat → Nat → Int) (y x : Nat) : (prsAt s f y x).length ≤ 3 := by
  unfold prsAt
  split <;> split <;> simp [prs0, prsR, prsB]
theorem prsRow_len (s : Nat) (f : Nat → Nat → Int) (y x : Nat) : (prsRow s f y x).length ≤ 3 * x := by
  induction x with
  | zero => simp [prsRow]
  | succ x ih => have := prsAt_len s f y x; simp only [prsRow, List.length_append]; omega
theorem prs_len (s : Nat) (f : Nat → Nat → Int) (y : Nat) : (prs s f y).length ≤ 3 * (s * y) := by
  induction y with
  | zero => simp [prs]
  | succ y ih => have := prsRow_len s f y s; simp only [prs, List.length_append, Nat.mul_succ]; omega
/-- a pair of colors -/
def isPr (p : List Int) : Prop := ∃ a b : Int, p = [a, b] ∧ 0 ≤ a ∧ a ≤ 5 ∧ 0 ≤ b ∧ b ≤ 5
def gapOf (zs : List Int) (p : List Int) : Int := gap (nth zs (nth p 0).toNat) (nth zs (nth p 1).toNat)
def sumC (zs : List Int) (L : List (List Int)) : Int := L.foldl (fun a p => a + gapOf zs p) 0
def lessC (zs : List Int) (m : Int) (p : List Int) : Int := if nth p 0 != nth p 1 && (decide (m < 0) || decide (gapOf zs p < m)) then gapOf zs p else m
def leastC (zs : List Int) (L : List (List Int)) : Int := L.foldl (lessC zs) (-1)
theorem sumC_append (zs : List Int) (L M : List (List Int)) : sumC zs (L ++ M) = M.foldl (fun a p => a + gapOf zs p) (sumC zs L) := by simp [sumC, List.foldl_append]
theorem sumC_snoc (zs : List Int) (L : List (List Int)) (p : List Int) : sumC zs (L ++ [p]) = sumC zs L + gapOf zs p := by simp [sumC, List.foldl_append]
theorem leastC_snoc (zs : List Int) (L : List (List Int)) (p : List Int) : leastC zs (L ++ [p]) = lessC zs (leastC zs L) p := by simp [leastC, List.foldl_append]
/-- the two contrasts of a block -/
def blockC (s : Int) (n : Nat) (f : Nat → Nat → Int) (zs : List Int) (m : Nat) : Int := if blockOk s n f && okList zs m 0 100 then sumC zs (prs s.toNat f s.toNat) else -1
def blockL (s : Int) (n : Nat) (f : Nat → Nat → Int) (zs : List Int) (m : Nat) : Int := if blockOk s n f && okList zs m 0 100 then max 0 (leastC zs (prs s.toNat f s.toNat)) else -1
theorem gapOf_bd {zs : List Int} {p : List Int} (hz : ∀ i, i < 6 → 0 ≤ nth zs i ∧ nth zs i ≤ 100) (h : isPr p) : 0 ≤ gapOf zs p ∧ gapOf zs p ≤ 100 := by
  obtain ⟨a, b, rfl, h1, h2, h3, h4⟩ := h
  have e0 : nth [a, b] 0 = a := rfl
  have e1 : nth [a, b] 1 = b := rfl
  unfold gapOf
  rw [e0, e1]
  exact gap_bd (hz a.toNat (by omega)) (hz b.toNat (by omega))
theorem sumC_bd {zs : List Int} {L : List (List Int)} (hz : ∀ i, i < 6 → 0 ≤ nth zs i ∧ nth zs i ≤ 100) (h : ∀ p ∈ L, isPr p) : 0 ≤ sumC zs L ∧ sumC zs L ≤ 100 * L.length := by
  have key : ∀ (L : List (List Int)) (a : Int), (∀ p ∈ L, isPr p) → 0 ≤ a → 0 ≤ L.foldl (fun a p => a + gapOf zs p) a ∧ L.foldl (fun a p => a + gapOf zs p) a ≤ a + 100 * L.length := by
    intro L
    induction L with
    | nil => intro a _ ha; simp; omega
    | cons p L ih =>
      intro a h ha
      have h1 := gapOf_bd hz (h p (by simp))
      have h2 := ih (a + gapOf zs p) (fun q hq => h q (by simp [hq])) (by omega)
      simp only [List.foldl_cons, List.length_cons]
      omega
  have := key L 0 h (by omega)
  unfold sumC
  omega
theorem leastC_bd {zs : List Int} {L : List (List Int)} (hz : ∀ i, i < 6 → 0 ≤ nth zs i ∧ nth zs i ≤ 100) (h : ∀ p ∈ L, isPr p) : -1 ≤ leastC zs L ∧ leastC zs L ≤ 100 := by
  have key : ∀ (L : List (List Int)) (a : Int), (∀ p ∈ L, isPr p) → -1 ≤ a ∧ a ≤ 100 → -1 ≤ L.foldl (lessC zs) a ∧ L.foldl (lessC zs) a ≤ 100 := by
    intro L
    induction L with
    | nil => intro a _ ha; exact ha
    | cons p L ih =>
      intro a h ha
      have h1 := gapOf_bd hz (h p (by simp))
      exact ih (lessC zs a p) (fun q hq => h q (by simp [hq])) (by unfold lessC; split <;> omega)
  exact key L (-1) h (by omega)
theorem isPr0 {f : Nat → Nat → Int} {k : Nat} (h : cellOk (f k) = true) : ∀ p ∈ prs0 f k, isPr p := by
  obtain ⟨_, h1, h2, _⟩ := cellOk_t h
  intro p hp
  rw [List.mem_singleton.1 hp]
  exact ⟨_, _, rfl, by omega, by omega, by omega, by omega⟩
theorem isPrR {f : Nat → Nat → Int} {k : Nat} (h : cellOk (f k) = true) (h2 : cellOk (f (k + 1)) = true) : ∀ p ∈ prsR f k, isPr p := by
  have a := colorAt_bd h (side := 2) (by decide)
  have b := colorAt_bd h2 (side := 0) (by decide)
  intro p hp
  rw [List.mem_singleton.1 hp]
  exact ⟨_, _, rfl, by omega, by omega, by omega, by omega⟩
theorem isPrB {s : Nat} {f : Nat → Nat → Int} {k : Nat} (h : cellOk (f k) = true) (h2 : cellOk (f (k + s)) = true) : ∀ p ∈ prsB s f k, isPr p := by
  have a := colorAt_bd h (side := 3) (by decide)
  have b := colorAt_bd h2 (side := 1) (by decide)
  intro p hp
  rw [List.mem_singleton.1 hp]
  exact ⟨_, _, rfl, by omega, by omega, by omega, by omega⟩
theorem place_in {s y x : Nat} (hy : y < s) (hx : x < s) : y * s + x < s * s := by
  have : y * s + s ≤ s * s := by rw [← Nat.succ_mul]; exact Nat.mul_le_mul_right _ hy
  omega
theorem isPrAt {s : Nat} {f : Nat → Nat → Int} {y x : Nat} (h : ∀ k, k < s * s → cellOk (f k) = true) (hy : y < s) (hx : x < s) : ∀ p ∈ prsAt s f y x, isPr p := by
  intro p hp
  have h0 := h _ (place_in hy hx)
  unfold prsAt at hp
  rcases List.mem_append.1 hp with q | q
  · rcases List.mem_append.1 q with q | q
    · exact isPr0 h0 p q
    · split at q
      · exact isPrR h0 (h _ (by have := place_in hy (show x + 1 < s by assumption); omega)) p q
      · cases q
  · split at q
    · exact isPrB h0 (h _ (by have := place_in (show y + 1 < s by assumption) hx; rw [Nat.succ_mul] at this; omega)) p q
    · cases q
theorem isPrRow {s : Nat} {f : Nat → Nat → Int} {y : Nat} (h : ∀ k, k < s * s → cellOk (f k) = true) (hy : y < s) : ∀ x, x ≤ s → ∀ p ∈ prsRow s f y x, isPr p := by
  intro x
  induction x with
  | zero => intro _ p hp; cases hp
  | succ x ih =>
    intro hx p hp
    rcases List.mem_append.1 hp with q | q
    · exact ih (by omega) p q
    · exact isPrAt h hy (by omega) p q
theorem isPrs {s : Nat} {f : Nat → Nat → Int} (h : ∀ k, k < s * s → cellOk (f k) = true) : ∀ y, y ≤ s → ∀ p ∈ prs s f y, isPr p := by
  intro y
  induction y with
  | zero => intro _ p hp; cases hp
  | succ y ih =>
    intro hy p hp
    rcases List.mem_append.1 hp with q | q
    · exact ih (by omega) p q
    · exact isPrRow h (by omega) s (Nat.le_refl _) p q
end Go.Proofs.Ythenjmjnooaokaa
