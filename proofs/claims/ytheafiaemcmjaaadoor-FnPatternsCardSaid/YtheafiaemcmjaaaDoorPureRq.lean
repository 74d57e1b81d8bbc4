/- Plain functions: the quilt that a text says. No program in sight. -/
import Derived.Test.YtheafiaemcmjaaaDoorPureSp
import Derived.Test.YtheafiaemcmjaaaDoorPureQu
namespace Go.Proofs.YtheafiaemcmjaaaDoor
def byteI (l : List UInt8) (i : Nat) : Int := ((l.getD i 0).toNat : Int)
theorem byteI_bd (l : List UInt8) (i : Nat) : 0 ≤ byteI l i ∧ byteI l i ≤ 255 := by
  unfold byteI
  have := (l.getD i 0).toNat_lt
  omega
/-- the quilt that stands at the fixed places of a text -/
def cW (l : List UInt8) : Int := byteI l 0 - 48
def cH (l : List UInt8) : Int := byteI l 2 - 48
def cN (l : List UInt8) : Nat := (l.length - 4) / 3
def cF (l : List UInt8) : Nat → Nat → Int := fun i j => if j = 0 then byteI l (5 + 3 * i) - 48 else byteI l (6 + 3 * i) - 97
def readQ (l : List UInt8) : Bool := decide (7 ≤ l.length) && decide (l.length ≤ 200) && (quiltTx (cW l) (cH l) (cN l) (cF l) == l)
def rW (l : List UInt8) : Int := if readQ l then cW l else 0
def rH (l : List UInt8) : Int := if readQ l then cH l else 0
def rN (l : List UInt8) : Nat := if readQ l then cN l else 0
theorem readQ_t {l : List UInt8} (h : readQ l = true) : 7 ≤ l.length ∧ l.length ≤ 200 ∧ quiltTx (cW l) (cH l) (cN l) (cF l) = l ∧ quiltOk (cW l) (cH l) (cN l) (cF l) = true := by
  unfold readQ at h
  simp only [Bool.and_eq_true, decide_eq_true_eq, beq_iff_eq] at h
  refine ⟨h.1.1, h.1.2, h.2, ?_⟩
  rcases Bool.eq_false_or_eq_true (quiltOk (cW l) (cH l) (cN l) (cF l)) with e | e
  · exact e
  · have h2 := h.2
    rw [quiltTx_no e] at h2
    have := h.1.1
    rw [← h2] at this
    simp at this
theorem readQ_of {l : List UInt8} (h7 : l ≠ []) (h : quiltTx (cW l) (cH l) (cN l) (cF l) = l) : readQ l = true := by
  rcases Bool.eq_false_or_eq_true (quiltOk (cW l) (cH l) (cN l) (cF l)) with e | e
  · have r := quilt_of e
    have hl : l.length = 4 + 3 * cN l := by
      have h2 := congrArg List.length h
      unfold quiltTx at h2
      rw [e] at h2
      simp only [if_true, List.length_append, quiltHd_len, spotsTx_len] at h2
      omega
    have := r.n1
    have := r.n36
    unfold readQ
    simp only [Bool.and_eq_true, decide_eq_true_eq, beq_iff_eq]
    exact ⟨⟨by omega, by omega⟩, h⟩
  · rw [quiltTx_no e] at h
    exact absurd h.symm h7
theorem readQ_f {l : List UInt8} (h7 : l ≠ []) (h : quiltTx (cW l) (cH l) (cN l) (cF l) ≠ l) : readQ l = false := by
  rcases Bool.eq_false_or_eq_true (readQ l) with e | e
  · exact absurd (readQ_t e).2.2.1 h
  · exact e
/-- where the i-th piece lies -/
theorem glue_at {c : UInt8} : ∀ (ps : List (List UInt8)) (i : Nat), (∀ j, j < i → ∀ q, ps[j]? = some q → q.length = 2) → ∀ q, ps[i]? = some q → ∃ rest, (glue c ps).drop (3 * i) = c :: (q ++ rest)
  | [], i, _, q, hq => by simp at hq
  | p :: ps, 0, _, q, hq => by
    simp only [List.getElem?_cons_zero, Option.some.injEq] at hq
    subst hq
    exact ⟨glue c ps, by simp [glue]⟩
  | p :: ps, i + 1, h, q, hq => by
    have h2 : p.length = 2 := h 0 (by omega) p rfl
    obtain ⟨rest, hr⟩ := glue_at (c := c) ps i (fun j hj q hq => h (j + 1) (by omega) q (by simpa using hq)) q (by simpa using hq)
    refine ⟨rest, ?_⟩
    rw [glue, show 3 * (i + 1) = (c :: p).length + 3 * i by simp [h2]; omega, List.drop_append, List.drop_eq_nil_of_le (by omega), List.nil_append, Nat.add_sub_cancel_left]
    exact hr
theorem glue_len {c : UInt8} : ∀ (ps : List (List UInt8)), (∀ q ∈ ps, q.length = 2) → (glue c ps).length = 3 * ps.length
  | [], _ => rfl
  | p :: ps, h => by
    have h2 := h p (by simp)
    have h3 := glue_len (c := c) ps fun q hq => h q (by simp [hq])
    simp only [glue, List.length_append, List.length_cons, h2, h3]
    omega
theorem pcs_head {c : UInt8} {l p : List UInt8} {ps : List (List UInt8)} (e : pcs c l = p :: ps) : l = p ++ glue c ps := by
  have h := glue_pcs c l
  rw [e, glue] at h
  simpa using h.symm
theorem piece_at {c : UInt8} {l p : List UInt8} {ps : List (List UInt8)} (e : pcs c l = p :: ps) (h4 : p.length = 4) {i : Nat} (h : ∀ j, j < i → ∀ q, ps[j]? = some q → q.length = 2) {a b : UInt8} (hq : ps[i]? = some [a, b]) : byteI l (5 + 3 * i) = (a.toNat : Int) ∧ byteI l (6 + 3 * i) = (b.toNat : Int) := by
  obtain ⟨rest, hr⟩ := glue_at (c := c) ps i h _ hq
  have hl := pcs_head e
  have hd : l.drop (4 + 3 * i) = c :: ([a, b] ++ rest) := by
    rw [hl, ← h4, List.drop_append, List.drop_eq_nil_of_le (by omega), List.nil_append, Nat.add_sub_cancel_left]
    exact hr
  have g : ∀ t, l.getD (4 + 3 * i + t) 0 = (l.drop (4 + 3 * i)).getD t 0 := fun t => by simp [List.getD]
  unfold byteI
  constructor
  · rw [show 5 + 3 * i = 4 + 3 * i + 1 by omega, g, hd]; simp [List.getD]
  · rw [show 6 + 3 * i = 4 + 3 * i + 2 by omega, g, hd]; simp [List.getD]
theorem pieces_n {l p : List UInt8} {ps : List (List UInt8)} (e : pcs 32 l = p :: ps) (h4 : p.length = 4) (h : ∀ q ∈ ps, q.length = 2) : l.length = 4 + 3 * ps.length ∧ cN l = ps.length := by
  have hl := congrArg List.length (pcs_head e)
  rw [List.length_append, glue_len ps h, h4] at hl
  exact ⟨hl, by unfold cN; omega⟩
theorem fig_not {n : Nat} (h : n ≤ 9) : (32 : UInt8) ∉ figs n := by
  rcases (by omega : n = 0 ∨ n = 1 ∨ n = 2 ∨ n = 3 ∨ n = 4 ∨ n = 5 ∨ n = 6 ∨ n = 7 ∨ n = 8 ∨ n = 9) with e | e | e | e | e | e | e | e | e | e <;> subst e <;> decide
theorem let_not {n : Nat} (h : n ≤ 7) : (32 : UInt8) ∉ [UInt8.ofNat (97 + n)] := by
  rcases (by omega : n = 0 ∨ n = 1 ∨ n = 2 ∨ n = 3 ∨ n = 4 ∨ n = 5 ∨ n = 6 ∨ n = 7) with e | e | e | e | e | e | e | e <;> subst e <;> decide
/-- the pieces of a quilt's text -/
theorem pcs_quilt {W H : Int} {n : Nat} {f : Nat → Nat → Int} (hW : 0 ≤ W ∧ W ≤ 9) (hH : 0 ≤ H ∧ H ≤ 9) : ∀ k, k ≤ n → (∀ i, i < n → 0 ≤ f i 0 ∧ f i 0 ≤ 5 ∧ 0 ≤ f i 1 ∧ f i 1 ≤ 7) → ∃ ps, pcs 32 (quiltHd W H ++ spotsTx f k) = quiltHd W H :: ps ∧ ps.length = k ∧ ∀ q ∈ ps, q.length = 2 := by
  intro k
  induction k with
  | zero =>
    intro _ _
    refine ⟨[], ?_, rfl, fun q hq => by cases hq⟩
    simp only [spotsTx, List.append_nil]
    refine pcs_one _ ?_
    have a := fig_not (n := W.toNat) (by omega)
    have b := fig_not (n := H.toNat) (by omega)
    simp only [quiltHd, List.mem_append, not_or]
    exact ⟨⟨⟨a, by decide⟩, b⟩, by decide⟩
  | succ k ih =>
    intro hk hf
    obtain ⟨ps, h1, h2, h3⟩ := ih (by omega) hf
    have hb := hf k (by omega)
    have a := fig_not (n := (f k 0).toNat) (by omega)
    have b := let_not (n := (f k 1).toNat) (by omega)
    have e : quiltHd W H ++ spotsTx f (k + 1) = (quiltHd W H ++ spotsTx f k) ++ 32 :: (figs (f k 0).toNat ++ [UInt8.ofNat (97 + (f k 1).toNat)]) := by
      simp [spotsTx, spotTx]
    refine ⟨ps ++ [figs (f k 0).toNat ++ [UInt8.ofNat (97 + (f k 1).toNat)]], ?_, by simp [h2], ?_⟩
    · rw [e, pcs_snoc (by rw [List.mem_append, not_or]; exact ⟨a, b⟩), h1]
      rfl
    · intro q hq
      rcases List.mem_append.1 hq with h | h
      · exact h3 q h
      · rw [List.mem_singleton.1 h]
        simp [figs]
/-- a text that says a quilt has good pieces -/
theorem good_of {l p : List UInt8} {ps : List (List UInt8)} (h : readQ l = true) (e : pcs 32 l = p :: ps) : p.length = 4 ∧ ps.length ≤ 36 ∧ ∀ q ∈ ps, q.length = 2 := by
  obtain ⟨_, _, h3, h4⟩ := readQ_t h
  have r := quilt_of h4
  obtain ⟨qs, g1, g2, g3⟩ := pcs_quilt (W := cW l) (H := cH l) (n := cN l) (f := cF l) (by have := r.w1; have := r.w6; omega) (by have := r.h1; have := r.h6; omega) (cN l) (Nat.le_refl _) r.ok
  have e2 : quiltHd (cW l) (cH l) ++ spotsTx (cF l) (cN l) = l := by
    unfold quiltTx at h3
    rw [h4] at h3
    exact h3
  rw [e2, e] at g1
  simp only [List.cons.injEq] at g1
  obtain ⟨rfl, rfl⟩ := g1
  exact ⟨quiltHd_len _ _, by rw [g2]; exact r.n36, g3⟩
theorem bad_head {l p : List UInt8} {ps : List (List UInt8)} (e : pcs 32 l = p :: ps) (h : p.length ≠ 4) : readQ l = false := by
  rcases Bool.eq_false_or_eq_true (readQ l) with q | q
  · exact absurd (good_of q e).1 h
  · exact q
theorem bad_many {l p : List UInt8} {ps : List (List UInt8)} (e : pcs 32 l = p :: ps) (h : 36 < ps.length) : readQ l = false := by
  rcases Bool.eq_false_or_eq_true (readQ l) with q | q
  · have := (good_of q e).2.1; omega
  · exact q
theorem bad_piece {l p q : List UInt8} {ps : List (List UInt8)} (e : pcs 32 l = p :: ps) {i : Nat} (hi : ps[i]? = some q) (h : q.length ≠ 2) : readQ l = false := by
  rcases Bool.eq_false_or_eq_true (readQ l) with t | t
  · exact absurd ((good_of t e).2.2 q (List.mem_of_getElem? hi)) h
  · exact t
end Go.Proofs.YtheafiaemcmjaaaDoor
