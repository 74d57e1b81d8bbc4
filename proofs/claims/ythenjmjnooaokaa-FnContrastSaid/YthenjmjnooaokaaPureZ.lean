/- Plain functions: lists of pairs of members. No program in sight. -/
import Derived.Test.YthenjmjnooaokaaPureY
import Derived.Test.YthenjmjnooaokaaRii2
namespace Go.Proofs.Ythenjmjnooaokaa
/-- the pairs for which something holds, among the first q places -/
def pairsL (N : Nat) (p : Nat → Nat → Bool) : Nat → List (List Int)
  | 0 => []
  | q + 1 => pairsL N p q ++ (if p (q / N) (q % N) then [[((q / N : Nat) : Int), ((q % N : Nat) : Int)]] else [])
def zOf (L : List (List Int)) (j : Nat) : List Int := L.getD j []
theorem zOf_l {L : List (List Int)} {x : List Int} {j : Nat} (h : j < L.length) : zOf (L ++ [x]) j = zOf L j := by
  simp only [zOf, List.getD, List.getElem?_append_left h]
theorem zOf_r (L : List (List Int)) (x : List Int) : zOf (L ++ [x]) L.length = x := by simp [zOf, List.getD]
theorem pairsL_step {N : Nat} (p : Nat → Nat → Bool) {i k : Nat} (hk : k < N) : pairsL N p (i * N + k + 1) = pairsL N p (i * N + k) ++ (if p i k then [[(i : Int), (k : Int)]] else []) := by
  have h1 : (i * N + k) / N = i := by rw [Nat.add_comm, Nat.add_mul_div_right _ _ (by omega), Nat.div_eq_of_lt hk, Nat.zero_add]
  have h2 : (i * N + k) % N = k := by rw [Nat.add_comm, Nat.add_mul_mod_self_right, Nat.mod_eq_of_lt hk]
  simp only [pairsL, h1, h2]
theorem pairsL_yes {N : Nat} {p : Nat → Nat → Bool} {i k : Nat} (hk : k < N) (h : p i k = true) : pairsL N p (i * N + k + 1) = pairsL N p (i * N + k) ++ [[(i : Int), (k : Int)]] := by
  rw [pairsL_step p hk, if_pos h]
theorem pairsL_no {N : Nat} {p : Nat → Nat → Bool} {i k : Nat} (hk : k < N) (h : p i k = false) : pairsL N p (i * N + k + 1) = pairsL N p (i * N + k) := by
  rw [pairsL_step p hk, if_neg (by rw [h]; simp), List.append_nil]
theorem pairsL_len (N : Nat) (p : Nat → Nat → Bool) (q : Nat) : (pairsL N p q).length ≤ q := by
  induction q with
  | zero => simp [pairsL]
  | succ q ih => simp only [pairsL, List.length_append]; split <;> simp <;> omega
theorem pairsL_mem (N : Nat) (p : Nat → Nat → Bool) (q : Nat) : ∀ r ∈ pairsL N p q, ∃ a b : Nat, r = [(a : Int), (b : Int)] ∧ a ≤ q ∧ b ≤ q := by
  induction q with
  | zero => simp [pairsL]
  | succ q ih =>
    intro r hr
    simp only [pairsL, List.mem_append] at hr
    rcases hr with hr | hr
    · obtain ⟨a, b, e, ha, hb⟩ := ih r hr
      exact ⟨a, b, e, by omega, by omega⟩
    · split at hr
      · rw [List.mem_singleton] at hr
        exact ⟨_, _, hr, Nat.le_trans (Nat.div_le_self _ _) (by omega), Nat.le_trans (Nat.mod_le _ _) (by omega)⟩
      · cases hr
theorem zOf_mem {L : List (List Int)} {j : Nat} (h : j < L.length) : zOf L j ∈ L := by simp [zOf, List.getD, h]
theorem pairs_wf {L : List (List Int)} (h : ∀ r ∈ L, ∃ a b : Nat, r = [(a : Int), (b : Int)] ∧ a ≤ 100 ∧ b ≤ 100) : ∀ i, i < L.length → ∀ x ∈ zOf L i, (Lit.int .i64 x).wf = true := by
  intro i hi x hx
  obtain ⟨a, b, e, ha, hb⟩ := h _ (zOf_mem hi)
  rw [e] at hx
  simp only [List.mem_cons, List.not_mem_nil, or_false] at hx
  rcases hx with rfl | rfl <;> exact WalkArith.wf_i64 (by omega)
/-- the pairs that are missing -/
def missP (z : Nat → List Int) (l : Nat) (i k : Nat) : Bool := !(i == k) && !sent z i (k : Int) l
/-- the pairs that are owed behind d rounds -/
def owedP (z : Nat → List Int) (l d : Nat) (i k : Nat) : Bool := !(i == k) && (sent z i (k : Int) l && !sent z i (k : Int) d)
def missL (n : Int) (z : Nat → List Int) (l : Nat) : List (List Int) := if plansOk n z l then pairsL n.toNat (missP z l) (n.toNat * n.toNat) else []
def owedL (n : Int) (z : Nat → List Int) (l : Nat) (d : Int) : List (List Int) := if plansOk n z l && inB d 0 l then pairsL n.toNat (owedP z l d.toNat) (n.toNat * n.toNat) else []
theorem sq_bd {n : Nat} (h : n ≤ 10) : n * n ≤ 100 := Nat.le_trans (Nat.mul_le_mul h h) (by omega)
theorem missL_bd (n : Int) (z : Nat → List Int) (l : Nat) : (missL n z l).length ≤ 100 ∧ ∀ r ∈ missL n z l, ∃ a b : Nat, r = [(a : Int), (b : Int)] ∧ a ≤ 100 ∧ b ≤ 100 := by
  unfold missL
  split
  · rename_i h
    have hP := plan_of h
    have h9 := hP.n9
    have hq := sq_bd (n := n.toNat) (by omega)
    exact ⟨Nat.le_trans (pairsL_len _ _ _) hq, fun r hr => by obtain ⟨a, b, e, h1, h2⟩ := pairsL_mem _ _ _ r hr; exact ⟨a, b, e, by omega, by omega⟩⟩
  · simp
theorem owedL_bd (n : Int) (z : Nat → List Int) (l : Nat) (d : Int) : (owedL n z l d).length ≤ 100 ∧ ∀ r ∈ owedL n z l d, ∃ a b : Nat, r = [(a : Int), (b : Int)] ∧ a ≤ 100 ∧ b ≤ 100 := by
  unfold owedL
  split
  · rename_i h
    have hP := plan_of (Bool.and_eq_true_iff.1 h).1
    have h9 := hP.n9
    have hq := sq_bd (n := n.toNat) (by omega)
    exact ⟨Nat.le_trans (pairsL_len _ _ _) hq, fun r hr => by obtain ⟨a, b, e, h1, h2⟩ := pairsL_mem _ _ _ r hr; exact ⟨a, b, e, by omega, by omega⟩⟩
  · simp
theorem sentN_zero (z : Nat → List Int) (i : Nat) (k : Int) (d : Nat) : (sentN z i k 0 d == 0) = !sent z i k d := by
  have h1 := sentN_bd z i k 0 d
  have h2 := sentN_pos z i k d
  rcases Bool.eq_false_or_eq_true (sent z i k d) with e | e
  · rw [e] at h2 ⊢
    have := of_decide_eq_true h2
    simp; omega
  · rw [e] at h2 ⊢
    have := of_decide_eq_false h2
    simp; omega
theorem sent_split (z : Nat → List Int) (i : Nat) (k : Int) (d m : Nat) : sent z i k (d + m) = (sent z i k d || decide (0 < sentN z i k d m)) := by
  induction m with
  | zero => simp [sentN]
  | succ m ih =>
    have hb := sentN_bd z i k d m
    have e : sent z i k (d + (m + 1)) = (sent z i k (d + m) || (nth (z (d + m)) i == k)) := rfl
    have e2 : sentN z i k d (m + 1) = sentN z i k d m + (if (nth (z (d + m)) i == k) = true then 1 else 0) := rfl
    rw [e, ih]
    rcases Bool.eq_false_or_eq_true (nth (z (d + m)) i == k) with q | q
    · rw [q, if_pos rfl] at e2
      rw [q, Bool.or_true, decide_eq_true (by omega : 0 < sentN z i k d (m + 1)), Bool.or_true]
    · rw [if_neg (by rw [q]; simp), Int.add_zero] at e2
      rw [q, e2, Bool.or_false]
theorem total_le {z : Nat → List Int} {k n : Nat} (h : ∀ i, i < n → (z i).length ≤ k) : total z n ≤ k * n := by
  induction n with
  | zero => simp [total]
  | succ n ih =>
    have h1 := ih fun i hi => h i (by omega)
    have h2 := h n (by omega)
    have e : total z (n + 1) = total z n + (z n).length := rfl
    rw [e, Nat.mul_succ]
    omega
theorem pairs_total {L : List (List Int)} (hl : L.length ≤ 100) (h : ∀ r ∈ L, ∃ a b : Nat, r = [(a : Int), (b : Int)] ∧ a ≤ 100 ∧ b ≤ 100) : L.length + total (zOf L) L.length ≤ 1048576 := by
  have := total_le (z := zOf L) (k := 2) (n := L.length) fun i hi => by
    obtain ⟨a, b, e, _, _⟩ := h _ (zOf_mem hi)
    rw [e]; simp
  omega
end Go.Proofs.Ythenjmjnooaokaa
