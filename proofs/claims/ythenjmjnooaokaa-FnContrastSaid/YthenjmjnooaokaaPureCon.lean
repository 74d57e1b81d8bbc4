/- Plain functions: a block that is turned and mirrored has the same contrasts. No program in sight. -/
import Derived.Test.YthenjmjnooaokaaPureCt
namespace Go.Proofs.Ythenjmjnooaokaa
def cell3 (a b c : Int) : Nat → Int
  | 0 => a
  | 1 => b
  | _ => c
/-- a cell that is turned; mirrored -/
def turnC (c : Nat → Int) : Nat → Int := if cellOk c then (if c 0 = 1 then cell3 2 (c 2) (c 1) else if c 0 = 2 then cell3 1 (c 1) (c 2) else c) else c
def mirC (c : Nat → Int) : Nat → Int := if cellOk c then (if c 0 = 0 then c else cell3 (3 - c 0) (c 2) (c 1)) else c
theorem ok_iff (c : Nat → Int) : cellOk c = true ↔ (0 ≤ c 0 ∧ c 0 ≤ 2) ∧ (0 ≤ c 1 ∧ c 1 ≤ 5) ∧ (0 ≤ c 2 ∧ c 2 ≤ 5) ∧ (c 0 = 0 ↔ c 1 = c 2) := by
  unfold cellOk inB
  simp only [Bool.and_eq_true, decide_eq_true_eq, beq_iff_eq]
  rw [Bool.eq_iff_iff]
  simp only [beq_iff_eq]
  constructor
  · rintro ⟨⟨⟨h1, h2⟩, h3⟩, h4⟩; exact ⟨h1, h2, h3, h4⟩
  · rintro ⟨h1, h2, h3, h4⟩; exact ⟨⟨⟨h1, h2⟩, h3⟩, h4⟩
theorem turn_ok (c : Nat → Int) : cellOk (turnC c) = cellOk c := by
  rw [Bool.eq_iff_iff]
  unfold turnC
  by_cases h : cellOk c = true
  · rw [if_pos h]
    have h' := (ok_iff c).1 h
    constructor
    · intro _; exact h
    · intro _
      split
      · rw [ok_iff]; simp only [cell3]; omega
      · split
        · rw [ok_iff]; simp only [cell3]; omega
        · exact h
  · rw [if_neg h]
theorem mir_ok (c : Nat → Int) : cellOk (mirC c) = cellOk c := by
  rw [Bool.eq_iff_iff]
  unfold mirC
  by_cases h : cellOk c = true
  · rw [if_pos h]
    have h' := (ok_iff c).1 h
    constructor
    · intro _; exact h
    · intro _
      split
      · exact h
      · rw [ok_iff]; simp only [cell3]; omega
  · rw [if_neg h]
theorem colorAt_w {c : Nat → Int} (h : cellOk c = true) : colorAt c 0 = c 1 ∧ colorAt c 2 = c 2 ∧ colorAt c 1 = (if c 0 = 1 then c 1 else c 2) ∧ colorAt c 3 = (if c 0 = 2 then c 1 else c 2) := by
  have h' := (ok_iff c).1 h
  unfold colorAt
  simp only [h, Bool.true_and]
  rw [show inB 0 0 3 = true from rfl, show inB 1 0 3 = true from rfl, show inB 2 0 3 = true from rfl, show inB 3 0 3 = true from rfl]
  simp only [if_true, isA]
  rcases (by omega : c 0 = 0 ∨ c 0 = 1 ∨ c 0 = 2) with e | e | e <;> simp [e]
theorem colorAt_no' {c : Nat → Int} (h : cellOk c = false) (s : Int) : colorAt c s = -1 := by unfold colorAt; rw [h]; rfl
theorem turn_at (c : Nat → Int) : colorAt (turnC c) 0 = colorAt c 3 ∧ colorAt (turnC c) 1 = colorAt c 0 ∧ colorAt (turnC c) 2 = colorAt c 1 ∧ colorAt (turnC c) 3 = colorAt c 2 := by
  rcases (Bool.eq_false_or_eq_true (cellOk c)).symm with h | h
  · have h2 : turnC c = c := by unfold turnC; rw [h]; rfl
    rw [h2]
    simp [colorAt_no' h]
  · have h' := (ok_iff c).1 h
    obtain ⟨a0, a2, a1, a3⟩ := colorAt_w h
    have ht : cellOk (turnC c) = true := by rw [turn_ok]; exact h
    obtain ⟨b0, b2, b1, b3⟩ := colorAt_w ht
    rw [a0, a1, a2, a3, b0, b1, b2, b3]
    unfold turnC
    rw [if_pos h]
    rcases (by omega : c 0 = 0 ∨ c 0 = 1 ∨ c 0 = 2) with e | e | e
    · have := h'.2.2.2.1 e
      simp [e, this]
    · simp [e, cell3]
    · simp [e, cell3]
theorem mir_at (c : Nat → Int) : colorAt (mirC c) 0 = colorAt c 2 ∧ colorAt (mirC c) 1 = colorAt c 1 ∧ colorAt (mirC c) 2 = colorAt c 0 ∧ colorAt (mirC c) 3 = colorAt c 3 := by
  rcases (Bool.eq_false_or_eq_true (cellOk c)).symm with h | h
  · have h2 : mirC c = c := by unfold mirC; rw [h]; rfl
    rw [h2]
    simp [colorAt_no' h]
  · have h' := (ok_iff c).1 h
    obtain ⟨a0, a2, a1, a3⟩ := colorAt_w h
    have ht : cellOk (mirC c) = true := by rw [mir_ok]; exact h
    obtain ⟨b0, b2, b1, b3⟩ := colorAt_w ht
    rw [a0, a1, a2, a3, b0, b1, b2, b3]
    unfold mirC
    rw [if_pos h]
    rcases (by omega : c 0 = 0 ∨ c 0 = 1 ∨ c 0 = 2) with e | e | e
    · have := h'.2.2.2.1 e
      simp [e, this]
    · simp [e, cell3]
    · simp [e, cell3]
theorem own_turn (c : Nat → Int) : (turnC c 1 = c 1 ∧ turnC c 2 = c 2) ∨ (turnC c 1 = c 2 ∧ turnC c 2 = c 1) := by
  unfold turnC
  split
  · split
    · exact .inr ⟨rfl, rfl⟩
    · split
      · exact .inl ⟨rfl, rfl⟩
      · exact .inl ⟨rfl, rfl⟩
  · exact .inl ⟨rfl, rfl⟩
theorem own_mir (c : Nat → Int) : (mirC c 1 = c 1 ∧ mirC c 2 = c 2) ∨ (mirC c 1 = c 2 ∧ mirC c 2 = c 1) := by
  unfold mirC
  split
  · split
    · exact .inl ⟨rfl, rfl⟩
    · exact .inr ⟨rfl, rfl⟩
  · exact .inl ⟨rfl, rfl⟩
/-- the cells of a block that is turned; mirrored -/
def turnF (s : Nat) (f : Nat → Nat → Int) : Nat → Nat → Int := fun k => turnC (f ((s - 1 - k % s) * s + k / s))
def mirF (s : Nat) (f : Nat → Nat → Int) : Nat → Nat → Int := fun k => mirC (f (k / s * s + (s - 1 - k % s)))
/-- a sum over pairs -/
def sumG (G : Int → Int → Int) : List (List Int) → Int
  | [] => 0
  | p :: L => G (nth p 0) (nth p 1) + sumG G L
theorem sumG_app (G : Int → Int → Int) (L M : List (List Int)) : sumG G (L ++ M) = sumG G L + sumG G M := by
  induction L with
  | nil => simp [sumG]
  | cons p L ih => simp only [List.cons_append, sumG, ih]; omega
section
variable {G : Int → Int → Int}
theorem g_turn (hG : ∀ a b, G a b = G b a) (c : Nat → Int) : G (turnC c 1) (turnC c 2) = G (c 1) (c 2) := by
  rcases own_turn c with ⟨a, b⟩ | ⟨a, b⟩
  · rw [a, b]
  · rw [a, b, hG]
theorem g_mir (hG : ∀ a b, G a b = G b a) (c : Nat → Int) : G (mirC c 1) (mirC c 2) = G (c 1) (c 2) := by
  rcases own_mir c with ⟨a, b⟩ | ⟨a, b⟩
  · rw [a, b]
  · rw [a, b, hG]
/-- what the own pair, the pair to the right, the pair below give -/
theorem sum_row (G : Int → Int → Int) (s : Nat) (f : Nat → Nat → Int) (y x : Nat) : sumG G (prsAt s f y x) = G (f (y * s + x) 1) (f (y * s + x) 2) + (if x + 1 < s then G (colorAt (f (y * s + x)) 2) (colorAt (f (y * s + x + 1)) 0) else 0) + (if y + 1 < s then G (colorAt (f (y * s + x)) 3) (colorAt (f (y * s + x + s)) 1) else 0) := by
  unfold prsAt
  rw [sumG_app, sumG_app]
  have n0 : ∀ a b : Int, nth [a, b] 0 = a := fun _ _ => rfl
  have n1 : ∀ a b : Int, nth [a, b] 1 = b := fun _ _ => rfl
  split <;> split <;> simp [prs0, prsR, prsB, sumG, n0, n1]
theorem flip_h (hG : ∀ a b, G a b = G b a) (c d : Nat → Int) : G (colorAt c 0) (colorAt d 2) = G (colorAt d 2) (colorAt c 0) := hG _ _
theorem flip_v (hG : ∀ a b, G a b = G b a) (c d : Nat → Int) : G (colorAt c 1) (colorAt d 3) = G (colorAt d 3) (colorAt c 1) := hG _ _
theorem sum_turn (hG : ∀ a b, G a b = G b a) (s : Nat) (h1 : 1 ≤ s) (h4 : s ≤ 4) (f : Nat → Nat → Int) : sumG G (prs s (turnF s f) s) = sumG G (prs s f s) := by
  have a0 := fun c => (turn_at c).1
  have a1 := fun c => (turn_at c).2.1
  have a2 := fun c => (turn_at c).2.2.1
  have a3 := fun c => (turn_at c).2.2.2
  have fh := flip_h hG
  have fv := flip_v hG
  have gt := g_turn hG
  rcases (by omega : s = 1 ∨ s = 2 ∨ s = 3 ∨ s = 4) with e | e | e | e <;> subst e
  all_goals
    simp only [prs, prsRow, sumG_app, sum_row, sumG, turnF, gt, a0, a1, a2, a3]
    simp (config := { decide := true }) only [Nat.reduceMul, Nat.reduceAdd, Nat.reduceMod, Nat.reduceDiv, Nat.reduceSub, if_true, if_false, fv]
    try omega
theorem sum_mir (hG : ∀ a b, G a b = G b a) (s : Nat) (h1 : 1 ≤ s) (h4 : s ≤ 4) (f : Nat → Nat → Int) : sumG G (prs s (mirF s f) s) = sumG G (prs s f s) := by
  have a0 := fun c => (mir_at c).1
  have a1 := fun c => (mir_at c).2.1
  have a2 := fun c => (mir_at c).2.2.1
  have a3 := fun c => (mir_at c).2.2.2
  have fh := flip_h hG
  have fv := flip_v hG
  have gt := g_mir hG
  rcases (by omega : s = 1 ∨ s = 2 ∨ s = 3 ∨ s = 4) with e | e | e | e <;> subst e
  all_goals
    simp only [prs, prsRow, sumG_app, sum_row, sumG, mirF, gt, a0, a1, a2, a3]
    simp (config := { decide := true }) only [Nat.reduceMul, Nat.reduceAdd, Nat.reduceMod, Nat.reduceDiv, Nat.reduceSub, if_true, if_false, fh]
    try omega
end
theorem sumC_G (zs : List Int) (L : List (List Int)) : sumC zs L = sumG (fun a b => gap (nth zs a.toNat) (nth zs b.toNat)) L := by
  have key : ∀ (L : List (List Int)) (x : Int), L.foldl (fun a p => a + gapOf zs p) x = x + sumG (fun a b => gap (nth zs a.toNat) (nth zs b.toNat)) L := by
    intro L
    induction L with
    | nil => intro x; simp [sumG]
    | cons p L ih =>
      intro x
      rw [List.foldl_cons, ih]
      simp only [sumG, gapOf]
      omega
  unfold sumC
  rw [key]; omega
theorem gap_comm (a b : Int) : gap a b = gap b a := by unfold gap; omega
theorem gap_nn (a b : Int) : 0 ≤ gap a b := by unfold gap; omega
/-- one for each pair of different colors whose contrast is at most m -/
def few (zs : List Int) (m : Int) (a b : Int) : Int := if a ≠ b ∧ gap (nth zs a.toNat) (nth zs b.toNat) ≤ m then 1 else 0
theorem few_comm (zs : List Int) (m a b : Int) : few zs m a b = few zs m b a := by
  unfold few
  rw [gap_comm]
  have e : (a ≠ b ∧ gap (nth zs b.toNat) (nth zs a.toNat) ≤ m) ↔ (b ≠ a ∧ gap (nth zs b.toNat) (nth zs a.toNat) ≤ m) := ⟨fun q => ⟨q.1.symm, q.2⟩, fun q => ⟨q.1.symm, q.2⟩⟩
  simp only [e]
theorem few_nn (zs : List Int) (m : Int) (L : List (List Int)) : 0 ≤ sumG (few zs m) L := by
  induction L with
  | nil => simp [sumG]
  | cons p L ih => simp only [sumG]; unfold few at ih ⊢; split <;> omega
theorem least_few (zs : List Int) (L : List (List Int)) : (-1 ≤ leastC zs L) ∧ (∀ m : Int, 0 ≤ m → ((0 ≤ leastC zs L ∧ leastC zs L ≤ m) ↔ 0 < sumG (few zs m) L)) := by
  have key : ∀ (L : List (List Int)) (x : Int), -1 ≤ x → (-1 ≤ L.foldl (lessC zs) x) ∧ ∀ m : Int, 0 ≤ m → ((0 ≤ L.foldl (lessC zs) x ∧ L.foldl (lessC zs) x ≤ m) ↔ ((0 ≤ x ∧ x ≤ m) ∨ 0 < sumG (few zs m) L)) := by
    intro L
    induction L with
    | nil => intro x hx; exact ⟨hx, fun m hm => by simp [sumG]⟩
    | cons p L ih =>
      intro x hx
      have hg := gap_nn (nth zs (nth p 0).toNat) (nth zs (nth p 1).toNat)
      have hl : -1 ≤ lessC zs x p := by unfold lessC gapOf; split <;> omega
      obtain ⟨i1, i2⟩ := ih (lessC zs x p) hl
      refine ⟨i1, fun m hm => ?_⟩
      have hn := few_nn zs m L
      rw [List.foldl_cons, i2 m hm]
      simp only [sumG]
      have hstep : (0 ≤ lessC zs x p ∧ lessC zs x p ≤ m) ↔ ((0 ≤ x ∧ x ≤ m) ∨ few zs m (nth p 0) (nth p 1) = 1) := by
        unfold lessC few gapOf
        by_cases e : nth p 0 = nth p 1
        · simp [e]
        · have e2 : (nth p 0 != nth p 1) = true := by simp [e]
          rw [e2]
          by_cases h1 : x < 0
          · rw [decide_eq_true h1]
            simp only [Bool.true_or, Bool.and_true, if_true]
            by_cases h2 : gap (nth zs (nth p 0).toNat) (nth zs (nth p 1).toNat) ≤ m
            · rw [if_pos ⟨e, h2⟩]; omega
            · rw [if_neg (fun q => h2 q.2)]; omega
          · rw [decide_eq_false h1]
            simp only [Bool.false_or, Bool.true_and]
            by_cases h3 : gap (nth zs (nth p 0).toNat) (nth zs (nth p 1).toNat) < x
            · rw [decide_eq_true h3]
              simp only [if_true]
              by_cases h2 : gap (nth zs (nth p 0).toNat) (nth zs (nth p 1).toNat) ≤ m
              · rw [if_pos ⟨e, h2⟩]; omega
              · rw [if_neg (fun q => h2 q.2)]; omega
            · rw [decide_eq_false h3]
              simp only [Bool.false_eq_true, if_false]
              by_cases h2 : gap (nth zs (nth p 0).toNat) (nth zs (nth p 1).toNat) ≤ m
              · rw [if_pos ⟨e, h2⟩]; omega
              · rw [if_neg (fun q => h2 q.2)]; omega
      have h01 : few zs m (nth p 0) (nth p 1) = 0 ∨ few zs m (nth p 0) (nth p 1) = 1 := by unfold few; split <;> simp
      rw [hstep]
      omega
  have k := key L (-1) (by omega)
  refine ⟨k.1, fun m hm => ?_⟩
  have := k.2 m hm
  unfold leastC
  rw [this]
  omega
theorem least_eq {zs : List Int} {L M : List (List Int)} (h : ∀ G : Int → Int → Int, (∀ a b, G a b = G b a) → sumG G L = sumG G M) : leastC zs L = leastC zs M := by
  obtain ⟨a1, a2⟩ := least_few zs L
  obtain ⟨b1, b2⟩ := least_few zs M
  have hm : ∀ m : Int, 0 ≤ m → ((0 ≤ leastC zs L ∧ leastC zs L ≤ m) ↔ (0 ≤ leastC zs M ∧ leastC zs M ≤ m)) := fun m hm => by
    rw [a2 m hm, b2 m hm, h (few zs m) (few_comm zs m)]
  by_cases p : 0 ≤ leastC zs L
  · have h1 := (hm _ p).1 ⟨p, by omega⟩
    have h2 := (hm _ h1.1).2 ⟨h1.1, by omega⟩
    omega
  · by_cases q : 0 ≤ leastC zs M
    · have h2 := (hm _ q).2 ⟨q, by omega⟩
      omega
    · omega
theorem sum_eq {zs : List Int} {L M : List (List Int)} (h : ∀ G : Int → Int → Int, (∀ a b, G a b = G b a) → sumG G L = sumG G M) : sumC zs L = sumC zs M := by
  rw [sumC_G, sumC_G]
  exact h _ fun a b => gap_comm _ _
/-- the same contrasts -/
def SameC (s : Nat) (f g : Nat → Nat → Int) : Prop := ∀ G : Int → Int → Int, (∀ a b, G a b = G b a) → sumG G (prs s f s) = sumG G (prs s g s)
theorem SameC.refl (s : Nat) (f : Nat → Nat → Int) : SameC s f f := fun _ _ => rfl
theorem SameC.turn {s : Nat} {f g : Nat → Nat → Int} (h : SameC s f g) (h1 : 1 ≤ s) (h4 : s ≤ 4) : SameC s (turnF s f) g := fun G hG => (sum_turn hG s h1 h4 f).trans (h G hG)
theorem SameC.mir {s : Nat} {f g : Nat → Nat → Int} (h : SameC s f g) (h1 : 1 ≤ s) (h4 : s ≤ 4) : SameC s (mirF s f) g := fun G hG => (sum_mir hG s h1 h4 f).trans (h G hG)
end Go.Proofs.Ythenjmjnooaokaa
