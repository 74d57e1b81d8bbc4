/- Euler's condition for a walk over all lines of a drawing, and the walk that it gives. No program in sight. -/
namespace Go.Proofs.Ytkgabnhfjmldbaa
namespace Eu
/-- one step of a walk along lines: the line e joins v and t -/
def joins (e : Int × Int) (v t : Int) : Prop := e = (v, t) ∨ e = (t, v)
def touches (e : Int × Int) (x : Int) : Prop := e.1 = x ∨ e.2 = x
def deg (L : List (Int × Int)) (x : Int) : Nat :=
  match L with
  | [] => 0
  | e :: L => (if e.1 = x then 1 else 0) + (if e.2 = x then 1 else 0) + deg L x
theorem deg_append (L M : List (Int × Int)) (x : Int) : deg (L ++ M) x = deg L x + deg M x := by
  induction L with
  | nil => simp [deg]
  | cons e L ih => simp only [List.cons_append, deg, ih]; omega
theorem deg_perm {L M : List (Int × Int)} (h : L.Perm M) (x : Int) : deg L x = deg M x := by
  induction h with
  | nil => rfl
  | cons e _ ih => simp only [deg, ih]
  | swap a b l => simp only [deg]; omega
  | trans _ _ h1 h2 => exact h1.trans h2
theorem deg_zero {L : List (Int × Int)} {x : Int} (h : ∀ e ∈ L, ¬ touches e x) : deg L x = 0 := by
  induction L with
  | nil => rfl
  | cons e L ih =>
    have h1 := h e (by simp)
    have h2 := ih fun e he => h e (by simp [he])
    simp only [deg, h2]
    unfold touches at h1
    rw [if_neg (fun q => h1 (Or.inl q)), if_neg (fun q => h1 (Or.inr q))]
theorem deg_pos {L : List (Int × Int)} {x : Int} {e : Int × Int} (he : e ∈ L) (h : touches e x) : 0 < deg L x := by
  induction L with
  | nil => cases he
  | cons d L ih =>
    simp only [deg]
    rcases List.mem_cons.1 he with q | q
    · subst q
      rcases h with h | h <;> rw [if_pos h] <;> omega
    · have := ih q; omega
/-- a walk from v to w that uses each line of L once, in k steps -/
def Trail : Nat → List (Int × Int) → Int → Int → Prop
  | 0, L, v, w => L = [] ∧ v = w
  | k + 1, L, v, w => ∃ e M t, L.Perm (e :: M) ∧ joins e v t ∧ Trail k M t w
theorem Trail.perm {k : Nat} {L M : List (Int × Int)} {v w : Int} (h : Trail k L v w) (p : L.Perm M) : Trail k M v w := by
  cases k with
  | zero =>
    obtain ⟨rfl, h⟩ := h
    exact ⟨p.nil_eq.symm, h⟩
  | succ k =>
    obtain ⟨e, N, t, q, j, r⟩ := h
    exact ⟨e, N, t, p.symm.trans q, j, r⟩
theorem Trail.append {k m : Nat} {L M : List (Int × Int)} {v t w : Int} (h : Trail k L v t) (h' : Trail m M t w) : Trail (k + m) (L ++ M) v w := by
  induction k generalizing L v with
  | zero =>
    obtain ⟨rfl, rfl⟩ := h
    rw [Nat.zero_add]; exact h'
  | succ k ih =>
    obtain ⟨e, N, s, p, j, r⟩ := h
    have := ih r
    rw [show k + 1 + m = (k + m) + 1 by omega]
    exact ⟨e, N ++ M, s, p.append_right M, j, this⟩
theorem joins_deg {e : Int × Int} {v t : Int} (h : joins e v t) (x : Int) : (if e.1 = x then 1 else 0) + (if e.2 = x then 1 else 0) = (if x = v then 1 else 0) + (if x = t then 1 else 0) := by
  rcases h with rfl | rfl
  · simp only [eq_comm]
  · simp only [eq_comm]; omega
theorem Trail.par {k : Nat} {L : List (Int × Int)} {v w : Int} (h : Trail k L v w) (x : Int) : deg L x % 2 = ((if x = v then 1 else 0) + (if x = w then 1 else 0)) % 2 := by
  induction k generalizing L v with
  | zero =>
    obtain ⟨rfl, rfl⟩ := h
    simp only [deg]; split <;> rfl
  | succ k ih =>
    obtain ⟨e, N, s, p, j, r⟩ := h
    rw [deg_perm p x]
    have h1 := ih r
    have h2 := joins_deg j x
    simp only [deg]
    omega
theorem mem_perm {L : List (Int × Int)} {e : Int × Int} (h : e ∈ L) : ∃ M, L.Perm (e :: M) := by
  obtain ⟨a, b, rfl⟩ := List.append_of_mem h
  exact ⟨a ++ b, List.perm_middle⟩
theorem greedy : ∀ (n : Nat) (L : List (Int × Int)) (v : Int), L.length = n → ∃ T R t k, L.Perm (T ++ R) ∧ Trail k T v t ∧ ∀ e ∈ R, ¬ touches e t := by
  intro n
  induction n with
  | zero =>
    intro L v h
    have : L = [] := List.length_eq_zero_iff.1 h
    subst this
    exact ⟨[], [], v, 0, List.Perm.refl _, ⟨rfl, rfl⟩, by simp⟩
  | succ n ih =>
    intro L v h
    by_cases q : ∃ e ∈ L, touches e v
    · obtain ⟨e, he, ht⟩ := q
      obtain ⟨M, p⟩ := mem_perm he
      have hl := p.length_eq
      simp only [List.length_cons] at hl
      obtain ⟨u, hu⟩ : ∃ u, joins e v u := by
        rcases ht with a | a
        · exact ⟨e.2, Or.inl (by rw [← a])⟩
        · exact ⟨e.1, Or.inr (by rw [← a])⟩
      obtain ⟨T, R, t, k, p2, tr, hR⟩ := ih M u (by omega)
      exact ⟨e :: T, R, t, k + 1, p.trans (p2.cons e), ⟨e, T, u, List.Perm.refl _, hu, tr⟩, hR⟩
    · exact ⟨[], L, v, 0, List.Perm.refl _, ⟨rfl, rfl⟩, fun e he ht => q ⟨e, he, ht⟩⟩
theorem joins_touch {e : Int × Int} {v t x : Int} (h : joins e v t) (q : touches e x) : x = v ∨ x = t := by
  rcases h with rfl | rfl <;> rcases q with q | q <;> simp only at q <;> simp [← q]
theorem Trail.splice {k m : Nat} {T T' : List (Int × Int)} {v w u : Int} (h : Trail k T v w) (hu : ∃ e ∈ T, touches e u) (h' : Trail m T' u u) : Trail (k + m) (T ++ T') v w := by
  induction k generalizing T v with
  | zero =>
    obtain ⟨rfl, _⟩ := h
    obtain ⟨e, he, _⟩ := hu
    cases he
  | succ k ih =>
    by_cases q : u = v
    · subst q
      have := h'.append h
      rw [Nat.add_comm]
      exact this.perm List.perm_append_comm
    · obtain ⟨e, N, t, p, j, r⟩ := h
      by_cases q2 : u = t
      · subst q2
        have := h'.append r
        have h3 : Trail (m + k) (N ++ T') u w := this.perm List.perm_append_comm
        rw [show k + 1 + m = (m + k) + 1 by omega]
        exact ⟨e, N ++ T', u, p.append_right T', j, h3⟩
      · obtain ⟨d, hd, ht⟩ := hu
        have hd2 : d ∈ e :: N := p.subset hd
        rcases List.mem_cons.1 hd2 with a | a
        · subst a
          rcases joins_touch j ht with a | a
          · exact absurd a q
          · exact absurd a q2
        · have h3 := ih r ⟨d, a, ht⟩
          rw [show k + 1 + m = (k + m) + 1 by omega]
          exact ⟨e, N ++ T', t, p.append_right T', j, h3⟩
/-- all lines hang together: a set that no line leaves holds all lines or none -/
def conn (L : List (Int × Int)) : Prop := ∀ S : Int → Prop, (∀ e ∈ L, S e.1 ↔ S e.2) → (∃ e ∈ L, S e.1) → ∀ e ∈ L, S e.1
theorem conn.perm {L M : List (Int × Int)} (h : conn L) (p : L.Perm M) : conn M := by
  intro S h1 h2 e he
  obtain ⟨d, hd, h3⟩ := h2
  exact h S (fun e he => h1 e (p.subset he)) ⟨d, p.symm.subset hd, h3⟩ e (p.symm.subset he)
theorem full : ∀ (r : Nat) (T R : List (Int × Int)) (v w : Int) (k : Nat), R.length ≤ r → Trail k T v w → T ≠ [] → (∀ x, deg R x % 2 = 0) → conn (T ++ R) → ∃ k', Trail k' (T ++ R) v w := by
  intro r
  induction r with
  | zero =>
    intro T R v w k hr ht _ _ _
    have : R = [] := List.length_eq_zero_iff.1 (by omega)
    subst this
    exact ⟨k, by rw [List.append_nil]; exact ht⟩
  | succ r ih =>
    intro T R v w k hr ht hT hd hc
    cases hR : R with
    | nil => exact ⟨k, by rw [List.append_nil]; exact ht⟩
    | cons e0 R0 =>
      rw [← hR]
      have hex : ∃ e ∈ R, ∃ u, touches e u ∧ ∃ d ∈ T, touches d u := by
        rcases Classical.em (∃ e ∈ R, ∃ u, touches e u ∧ ∃ d ∈ T, touches d u) with q | q
        · exact q
        · exfalso
          have hno : ∀ e ∈ R, ∀ u, touches e u → ¬ ∃ d ∈ T, touches d u := fun e he u hu hd => q ⟨e, he, u, hu, hd⟩
          have := hc (fun x => ∃ d ∈ T, touches d x) (by
            intro e he
            rcases List.mem_append.1 he with a | a
            · exact ⟨fun _ => ⟨e, a, Or.inr rfl⟩, fun _ => ⟨e, a, Or.inl rfl⟩⟩
            · exact ⟨fun h => absurd h (hno e a e.1 (Or.inl rfl)), fun h => absurd h (hno e a e.2 (Or.inr rfl))⟩) (by
            cases T with
            | nil => exact absurd rfl hT
            | cons d T => exact ⟨d, by simp, d, by simp, Or.inl rfl⟩) e0 (by rw [hR]; simp)
          exact hno e0 (by rw [hR]; simp) e0.1 (Or.inl rfl) this
      obtain ⟨e, he, u, hu, hdu⟩ := hex
      obtain ⟨T', R', t, m, p, tr, hend⟩ := greedy R.length R u rfl
      have ht0 : u = t := by
        have h1 := hd t
        rw [deg_perm p t, deg_append, deg_zero hend] at h1
        have h2 := tr.par t
        rw [if_pos rfl] at h2
        by_cases q : t = u
        · exact q.symm
        · rw [if_neg q] at h2; omega
      subst ht0
      have hT' : T' ≠ [] := by
        intro q
        rw [q, List.nil_append] at p
        exact hend e (p.subset he) hu
      have hl := p.length_eq
      rw [List.length_append] at hl
      have hl2 : 0 < T'.length := List.length_pos_iff.2 hT'
      have hs := ht.splice hdu tr
      have pp : (T ++ R).Perm ((T ++ T') ++ R') := by rw [List.append_assoc]; exact p.append_left T
      obtain ⟨k', hk⟩ := ih (T ++ T') R' v w (k + m) (by omega) hs (by intro q; exact hT (List.append_eq_nil_iff.1 q).1) (by
        intro x
        have h1 := hd x
        have h2 := tr.par x
        rw [deg_perm p x, deg_append] at h1
        split at h2 <;> omega) (hc.perm pp)
      exact ⟨k', hk.perm pp.symm⟩
/-- Euler's condition for a walk from v to w over all lines -/
structure Goes (L : List (Int × Int)) (v w : Int) : Prop where
  conn : conn L
  touch : L ≠ [] → ∃ e ∈ L, touches e v
  par : ∀ x, deg L x % 2 = ((if x = v then 1 else 0) + (if x = w then 1 else 0)) % 2
theorem Goes.trail {L : List (Int × Int)} {v w : Int} (h : Goes L v w) : ∃ k, Trail k L v w := by
  cases hL : L with
  | nil =>
    have := h.par v
    rw [hL] at this
    simp only [deg, if_true] at this
    by_cases q : v = w
    · exact ⟨0, rfl, q⟩
    · rw [if_neg q] at this; simp at this
  | cons e0 L0 =>
    rw [← hL]
    obtain ⟨T, R, t, m, p, tr, hend⟩ := greedy L.length L v rfl
    have ht : w = t := by
      have h1 := h.par t
      rw [deg_perm p t, deg_append, deg_zero hend] at h1
      have h2 := tr.par t
      rw [if_pos rfl] at h2
      by_cases q : t = w
      · exact q.symm
      · rw [if_neg q] at h1; split at h1 <;> simp_all <;> omega
    subst ht
    have hT : T ≠ [] := by
      intro q
      subst q
      obtain ⟨e, he, hu⟩ := h.touch (by rw [hL]; simp)
      cases m with
      | zero =>
        obtain ⟨_, rfl⟩ := tr
        exact hend e (p.subset he) hu
      | succ m =>
        obtain ⟨_, _, _, q, _⟩ := tr
        have := q.length_eq
        simp at this
    obtain ⟨k', hk⟩ := full R.length T R v w m (Nat.le_refl _) tr hT (by
      intro x
      have h1 := h.par x
      have h2 := tr.par x
      rw [deg_perm p x, deg_append] at h1
      omega) (h.conn.perm p)
    exact ⟨k', hk.perm p.symm⟩
theorem Trail.touch {k : Nat} {L : List (Int × Int)} {v w : Int} (h : Trail k L v w) (hL : L ≠ []) : ∃ e ∈ L, touches e v := by
  cases k with
  | zero => exact absurd h.1 hL
  | succ k =>
    obtain ⟨e, N, t, p, j, _⟩ := h
    refine ⟨e, p.symm.subset (by simp), ?_⟩
    rcases j with rfl | rfl
    · exact Or.inl rfl
    · exact Or.inr rfl
theorem Trail.conn {k : Nat} {L : List (Int × Int)} {v w : Int} (h : Trail k L v w) : conn L := by
  induction k generalizing L v with
  | zero =>
    obtain ⟨rfl, _⟩ := h
    intro S _ _ e he
    cases he
  | succ k ih =>
    obtain ⟨e, N, t, p, j, r⟩ := h
    have hN := ih r
    suffices conn' : Eu.conn (e :: N) from conn'.perm p.symm
    intro S h1 h2 d hd
    have hS : ∀ d ∈ e :: N, ∀ x, touches d x → (S x ↔ S d.1) := by
      intro d hd x hx
      rcases hx with a | a
      · rw [← a]
      · rw [← a]; exact (h1 d hd).symm
    have het : touches e t := by
      rcases j with rfl | rfl
      · exact Or.inr rfl
      · exact Or.inl rfl
    have key : ∀ a b, a ∈ e :: N → b ∈ e :: N → S a.1 → S b.1 := by
      have hNe : ∀ a ∈ N, (S a.1 ↔ S e.1) := by
        intro a ha
        obtain ⟨c, hc, hct⟩ := r.touch (by intro q; rw [q] at ha; cases ha)
        have hc1 := hS c (by simp [hc]) t hct
        have he1 := hS e (by simp) t het
        have hsub : ∀ d ∈ N, S d.1 ↔ S d.2 := fun d hd => h1 d (by simp [hd])
        constructor
        · intro h
          have := hN S hsub ⟨a, ha, h⟩ c hc
          exact he1.1 (hc1.2 this)
        · intro h
          exact hN S hsub ⟨c, hc, hc1.1 (he1.2 h)⟩ a ha
      intro a b ha hb hSa
      have ea : S e.1 := by
        rcases List.mem_cons.1 ha with q | q
        · rw [← q]; exact hSa
        · exact (hNe a q).1 hSa
      rcases List.mem_cons.1 hb with q | q
      · rw [q]; exact ea
      · exact (hNe b q).2 ea
    obtain ⟨c, hc, hSc⟩ := h2
    exact key c d hc hd hSc
theorem Trail.goes {k : Nat} {L : List (Int × Int)} {v w : Int} (h : Trail k L v w) : Goes L v w := ⟨h.conn, h.touch, h.par⟩
/-- where Euler's condition holds, some line can be walked first and the condition holds of the rest -/
theorem Goes.step {L : List (Int × Int)} {v w : Int} (h : Goes L v w) (hL : L ≠ []) : ∃ e M t, L.Perm (e :: M) ∧ joins e v t ∧ Goes M t w := by
  obtain ⟨k, hk⟩ := h.trail
  cases k with
  | zero => exact absurd hk.1 hL
  | succ k =>
    obtain ⟨e, M, t, p, j, r⟩ := hk
    exact ⟨e, M, t, p, j, r.goes⟩
end Eu
end Go.Proofs.Ytkgabnhfjmldbaa
