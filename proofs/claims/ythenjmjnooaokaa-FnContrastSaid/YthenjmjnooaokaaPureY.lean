/- Plain functions on plans: pairs, fair plans, who sends to a member. No program in sight. -/
import Derived.Test.YthenjmjnooaokaaPureQ
namespace Go.Proofs.Ythenjmjnooaokaa
/-- something holds of all numbers below k -/
def allTo (p : Nat → Bool) : Nat → Bool
  | 0 => true
  | k + 1 => allTo p k && p k
theorem allTo_step {p : Nat → Bool} {k : Nat} (h : allTo p k = true) (e : p k = true) : allTo p (k + 1) = true := by simp only [allTo, h, e]; rfl
theorem allTo_iff {p : Nat → Bool} {l : Nat} : allTo p l = true ↔ ∀ k, k < l → p k = true := by
  induction l with
  | zero => simp [allTo]
  | succ l ih =>
    simp only [allTo, Bool.and_eq_true, ih]
    constructor
    · rintro ⟨h1, h2⟩ k hk
      rcases (by omega : k < l ∨ k = l) with e | e
      · exact h1 k e
      · subst e; exact h2
    · intro h
      exact ⟨fun k hk => h k (by omega), h l (by omega)⟩
theorem allTo_no {p : Nat → Bool} {k l : Nat} (h : k < l) (e : p k = false) : allTo p l = false := by
  rcases Bool.eq_false_or_eq_true (allTo p l) with q | q
  · rw [allTo_iff.1 q k h] at e; cases e
  · exact q
/-- all of a round exchange in pairs -/
def pairAt (r : List Int) (k : Nat) : Bool := nth r (nth r k).toNat == (k : Int)
def pairRow (r : List Int) : Bool := allTo (pairAt r) r.length
def pairsTo (z : Nat → List Int) (l : Nat) : Bool := allTo (fun j => pairRow (z j)) l
def pairsOk (n : Int) (z : Nat → List Int) (l : Nat) : Bool := roundsOk n z l && pairsTo z l
theorem pairs_no {n : Int} {z : Nat → List Int} {j l k : Nat} (h : j < l) (hk : k < (z j).length) (e : pairAt (z j) k = false) : pairsOk n z l = false := by
  unfold pairsOk pairsTo
  rw [allTo_no (p := fun j => pairRow (z j)) h (show pairRow (z j) = false from allTo_no hk e), Bool.and_false]
/-- nobody gets the same one's block in the rounds r and s -/
def apartAt (z : Nat → List Int) (r s k : Nat) : Bool := !(nth (z r) k == nth (z s) k)
def apart2 (N : Nat) (z : Nat → List Int) (r s : Nat) : Bool := allTo (apartAt z r s) N
def apart1 (N : Nat) (z : Nat → List Int) (r : Nat) : Bool := allTo (apart2 N z r) r
def apart0 (N : Nat) (z : Nat → List Int) (l : Nat) : Bool := allTo (apart1 N z) l
def fairOk (n : Int) (z : Nat → List Int) (l : Nat) : Bool := roundsOk n z l && ((l : Int) == n - 1) && apart0 n.toNat z l
theorem sent_iff {z : Nat → List Int} {i : Nat} {k : Int} {l : Nat} : sent z i k l = true ↔ ∃ j, j < l ∧ nth (z j) i = k := by
  induction l with
  | zero => simp [sent]
  | succ l ih =>
    simp only [sent, Bool.or_eq_true, ih, beq_iff_eq]
    constructor
    · rintro (⟨j, hj, e⟩ | e)
      · exact ⟨j, by omega, e⟩
      · exact ⟨l, by omega, e⟩
    · rintro ⟨j, hj, e⟩
      rcases (by omega : j < l ∨ j = l) with q | q
      · exact Or.inl ⟨j, q, e⟩
      · subst q; exact Or.inr e
theorem repIn_zero {z : Nat → List Int} {r k : Nat} : repIn z r k = 0 ↔ ∀ i, i < k → again z r i = false := by
  induction k with
  | zero => simp [repIn]
  | succ k ih =>
    have hb := repIn_bd z r k
    simp only [repIn]
    constructor
    · intro h i hi
      have h1 : repIn z r k = 0 := by split at h <;> omega
      rcases (by omega : i < k ∨ i = k) with q | q
      · exact ih.1 h1 i q
      · subst q
        rcases Bool.eq_false_or_eq_true (again z r i) with a | a
        · rw [if_pos a] at h; omega
        · exact a
    · intro h
      rw [ih.2 fun i hi => h i (by omega), if_neg (by rw [h k (by omega)]; simp)]; rfl
theorem repTo_zero {n : Int} {z : Nat → List Int} {l : Nat} (h : Plan n z l) : ∀ r, r ≤ l → (repTo z r = 0 ↔ ∀ j, j < r → repIn z j (z j).length = 0) := by
  intro r
  induction r with
  | zero => simp [repTo]
  | succ r ih =>
    intro hr
    have ih := ih (by omega)
    have h1 := repTo_bd h r (by omega)
    have h2 := repIn_bd z r (z r).length
    simp only [repTo]
    constructor
    · intro e j hj
      rcases (by omega : j < r ∨ j = r) with q | q
      · exact ih.1 (by omega) j q
      · subst q; omega
    · intro e
      rw [ih.2 fun j hj => e j (by omega), e r (by omega)]; rfl
theorem fair_eq (n : Int) (z : Nat → List Int) (l : Nat) : fairOk n z l = (roundsOk n z l && ((l : Int) == n - 1) && (repeated n z l == 0)) := by
  rcases Bool.eq_false_or_eq_true (roundsOk n z l) with hO | hO
  · have hR := rounds_of hO
    have hp : plansOk n z l = true := (Bool.and_eq_true_iff.1 hO).1
    have e : (repeated n z l == 0) = apart0 n.toNat z l := by
      rw [Bool.eq_iff_iff, beq_iff_eq]
      unfold repeated
      rw [if_pos hp, repTo_zero hR.toPlan l (Nat.le_refl _)]
      unfold apart0
      rw [allTo_iff]
      refine forall_congr' fun r => forall_congr' fun hr => ?_
      rw [repIn_zero]
      unfold apart1
      rw [allTo_iff]
      have hl := hR.len r hr
      constructor
      · intro h s hs
        unfold apart2
        rw [allTo_iff]
        intro k hk
        have h1 := h k (by omega)
        have h2 := hR.nofix r hr k (by omega)
        unfold again at h1
        rw [beq_eq_false_iff_ne.2 h2, Bool.not_false, Bool.true_and] at h1
        unfold apartAt
        rw [Bool.not_eq_true', beq_eq_false_iff_ne]
        intro e
        rw [sent_iff.2 ⟨s, hs, e.symm⟩] at h1
        cases h1
      · intro h k hk
        unfold again
        rcases Bool.eq_false_or_eq_true (sent z k (nth (z r) k) r) with q | q
        · obtain ⟨s, hs, e⟩ := sent_iff.1 q
          have h1 := allTo_iff.1 (h s hs) k (by omega)
          unfold apartAt at h1
          rw [e] at h1
          simp at h1
        · rw [q, Bool.and_false]
    unfold fairOk
    rw [e]
  · unfold fairOk
    rw [hO]; rfl
theorem fair_no {N : Nat} {z : Nat → List Int} {r s k l : Nat} (hr : r < l) (hs : s < r) (hk : k < N) (e : apartAt z r s k = false) : fairOk N z l = false := by
  unfold fairOk
  rw [Int.toNat_natCast]
  unfold apart0
  rw [allTo_no hr (show apart1 N z r = false from allTo_no hs (show apart2 N z r s = false from allTo_no hk e)), Bool.and_false]
/-- a list without doubles of n numbers from 0 to n - 1 holds each of them -/
theorem nodup_bound (n : Nat) : ∀ (xs : List Int), xs.Nodup → (∀ x ∈ xs, 0 ≤ x ∧ x < n) → xs.length ≤ n := by
  induction n with
  | zero =>
    intro xs _ h
    cases xs with
    | nil => simp
    | cons x xs => have := h x (by simp); omega
  | succ n ih =>
    intro xs hn h
    have h1 := ih (xs.erase (n : Int)) (hn.erase _) fun x hx => by
      have h2 := (hn.mem_erase_iff).1 hx
      have h3 := h x h2.2
      have h4 := h2.1
      omega
    have h2 := List.length_erase (a := (n : Int)) (l := xs)
    split at h2 <;> omega
theorem nodup_full {n : Nat} {xs : List Int} (hn : xs.Nodup) (hl : xs.length = n) (h : ∀ x ∈ xs, 0 ≤ x ∧ x < n) {k : Int} (k0 : 0 ≤ k) (kn : k < n) : k ∈ xs := by
  rcases Classical.em (k ∈ xs) with e | e
  · exact e
  · have := nodup_bound n (k :: xs) (List.nodup_cons.2 ⟨e, hn⟩) fun x hx => by
      rcases List.mem_cons.1 hx with rfl | hx
      · exact ⟨k0, kn⟩
      · exact h x hx
    simp at this
    omega
/-- the first index of a number from k on; -1 if there is none -/
def idxFrom (zs : List Int) (x : Int) (k : Nat) : Nat → Int
  | 0 => -1
  | f + 1 => if nth zs k == x then (k : Int) else idxFrom zs x (k + 1) f
def idxOf (zs : List Int) (x : Int) : Int := idxFrom zs x 0 zs.length
theorem idxFrom_bd (zs : List Int) (x : Int) (f k : Nat) : -1 ≤ idxFrom zs x k f ∧ idxFrom zs x k f < (k : Int) + f + 1 := by
  induction f generalizing k with
  | zero => simp only [idxFrom]; omega
  | succ f ih =>
    have := ih (k + 1)
    simp only [idxFrom]
    split <;> omega
theorem idxFrom_at {zs : List Int} {x : Int} {m : Nat} (hm : nth zs m = x) (hu : ∀ i, i < m → nth zs i ≠ x) : ∀ f k, k ≤ m → m < k + f → idxFrom zs x k f = m := by
  intro f
  induction f with
  | zero => intro k h1 h2; omega
  | succ f ih =>
    intro k h1 h2
    simp only [idxFrom]
    rcases (by omega : k = m ∨ k < m) with e | e
    · subst e; rw [if_pos (beq_iff_eq.2 hm)]
    · rw [if_neg (by simpa using hu k e)]
      exact ih (k + 1) (by omega) (by omega)
/-- who sends to k in a round -/
theorem sender {n : Int} {z : Nat → List Int} {l : Nat} (h : Rounds n z l) {r : Nat} (hr : r < l) {k : Int} (k0 : 0 ≤ k) (kn : k ≤ n - 1) :
    ∃ m : Nat, m < (z r).length ∧ nth (z r) m = k ∧ (∀ i, i < (z r).length → nth (z r) i = k → i = m) ∧ idxOf (z r) k = m := by
  have hl := h.len r hr
  have hb := h.bd r hr
  have hm : k ∈ z r := nodup_full (n := (z r).length) (h.nodup r hr) rfl (fun x hx => by
    obtain ⟨i, hi, e⟩ := List.mem_iff_getElem.1 hx
    have := hb i hi
    rw [nth_eq hi, e] at this
    omega) k0 (by omega)
  obtain ⟨m, hm1, hm2⟩ := List.mem_iff_getElem.1 hm
  have hu : ∀ i, i < (z r).length → nth (z r) i = k → i = m := by
    intro i hi e
    rw [nth_eq hi] at e
    have hn := h.nodup r hr
    rw [List.Nodup, List.pairwise_iff_getElem] at hn
    rcases (by omega : i < m ∨ i = m ∨ m < i) with q | q | q
    · exact absurd (e.trans hm2.symm) (hn i m hi hm1 q)
    · exact q
    · exact absurd (hm2.trans e.symm) (hn m i hm1 hi q)
  refine ⟨m, hm1, by rw [nth_eq hm1, hm2], hu, ?_⟩
  exact idxFrom_at (by rw [nth_eq hm1, hm2]) (fun i hi e => by have := hu i (by omega) e; omega) _ 0 (by omega) (by omega)
def received (z : Nat → List Int) (k : Int) (l : Nat) : List Int := (List.range l).map fun r => idxOf (z r) k
def receivedBy (n : Int) (z : Nat → List Int) (l : Nat) (k : Int) : List Int := if roundsOk n z l && inB k 0 (n - 1) then received z k l else []
theorem received_len (z : Nat → List Int) (k : Int) (l : Nat) : (received z k l).length = l := by simp [received]
theorem received_step (z : Nat → List Int) (k : Int) (l : Nat) : received z k (l + 1) = received z k l ++ [idxOf (z l) k] := by simp [received, List.range_succ]
theorem receivedBy_len (n : Int) (z : Nat → List Int) (l : Nat) (k : Int) : (receivedBy n z l k).length ≤ 9 := by
  unfold receivedBy
  split
  · rename_i h
    have := (rounds_of (Bool.and_eq_true_iff.1 h).1).l9
    rw [received_len]; exact this
  · simp
theorem receivedBy_wf (n : Int) (z : Nat → List Int) (l : Nat) (k : Int) : ∀ x ∈ receivedBy n z l k, (Lit.int .i64 x).wf = true := by
  intro x hx
  unfold receivedBy at hx
  split at hx
  · rename_i h
    have h1 := Bool.and_eq_true_iff.1 h
    have hR := rounds_of h1.1
    have hk := inB_t h1.2
    simp only [received, List.mem_map, List.mem_range] at hx
    obtain ⟨r, hr, rfl⟩ := hx
    obtain ⟨m, hm, _, _, e⟩ := sender hR hr hk.1 hk.2
    have hl := hR.len r hr
    have := hR.n9
    rw [e]
    exact WalkArith.wf_i64 (by omega)
  · cases hx
end Go.Proofs.Ythenjmjnooaokaa
