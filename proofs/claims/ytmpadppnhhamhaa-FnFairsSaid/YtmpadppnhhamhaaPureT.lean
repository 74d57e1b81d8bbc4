/- Plain functions on sheets: sums of columns. No program in sight. -/
import Derived.Test.YtmpadppnhhamhaaPureF
namespace Go.Proofs.Ytmpadppnhhamhaa
/-- the sum of column i over the first j rows -/
def colSum (z : Nat → List Int) : Nat → Nat → Int
  | 0, _ => 0
  | j + 1, i => colSum z j i + nth (z j) i
def tot (z : Nat → List Int) (m j i : Nat) : List Int := (List.range m).map fun c => colSum z (if c < i then j + 1 else j) c
def totals (z : Nat → List Int) (m n : Nat) : List Int := (List.range m).map (colSum z n)
def totalsOf (z : Nat → List Int) (n : Nat) : List Int := if sheetOk z n then totals z (z 0).length n else []
theorem tot_len (z : Nat → List Int) (m j i : Nat) : (tot z m j i).length = m := by simp [tot]
theorem totals_len (z : Nat → List Int) (m n : Nat) : (totals z m n).length = m := by simp [totals]
theorem nth_tot {z : Nat → List Int} {m j i c : Nat} (h : c < m) : nth (tot z m j i) c = colSum z (if c < i then j + 1 else j) c := nth_map_range h
theorem nth_totals {z : Nat → List Int} {m n c : Nat} (h : c < m) : nth (totals z m n) c = colSum z n c := nth_map_range h
theorem tot_start (z : Nat → List Int) (m : Nat) : tot z m 0 0 = List.replicate m 0 := by
  apply List.ext_getElem?
  intro i
  by_cases hi : i < m <;> simp [tot, hi, colSum]
theorem tot_next (z : Nat → List Int) (m j : Nat) : tot z m j m = tot z m (j + 1) 0 := by
  unfold tot
  refine List.map_congr_left fun c hc => ?_
  have := List.mem_range.1 hc
  rw [if_pos (by omega), if_neg (by omega)]
theorem tot_end (z : Nat → List Int) (m j : Nat) : tot z m j 0 = totals z m j := by
  unfold tot totals
  refine List.map_congr_left fun c _ => ?_
  rw [if_neg (by omega)]
theorem tot_set {z : Nat → List Int} {m j i : Nat} (hi : i < m) : (tot z m j i).set i (colSum z j i + nth (z j) i) = tot z m j (i + 1) := by
  apply list_ext_nth
  · rw [List.length_set, tot_len, tot_len]
  · intro c hc
    rw [List.length_set, tot_len] at hc
    rw [nth_set (by rw [tot_len]; exact hi), nth_tot hc, nth_tot hc]
    by_cases e : c = i
    · subst e
      rw [if_pos rfl, if_pos (by omega)]
      rfl
    · rw [if_neg e]
      by_cases h : c < i
      · rw [if_pos h, if_pos (by omega)]
      · rw [if_neg h, if_neg (by omega)]
theorem colSum_bd {z : Nat → List Int} {n m : Nat} (h : Sheet z n m) {i : Nat} (hi : i < m) : ∀ j, j ≤ n → 0 ≤ colSum z j i ∧ colSum z j i ≤ 100 * (j : Int) := by
  intro j
  induction j with
  | zero => intro _; simp [colSum]
  | succ j ih =>
    intro hj
    have h1 := ih (by omega)
    have h2 := h.bd j (by omega) i hi
    simp only [colSum]
    omega
theorem totals_wf {z : Nat → List Int} {n m : Nat} (h : Sheet z n m) : ∀ x ∈ totals z m n, (Lit.int .i64 x).wf = true := by
  intro x hx
  simp only [totals, List.mem_map, List.mem_range] at hx
  obtain ⟨i, hi, rfl⟩ := hx
  have := colSum_bd h hi n (Nat.le_refl _)
  have := h.n9
  exact WalkArith.wf_i64 (by omega)
theorem totalsOf_wf (z : Nat → List Int) (n : Nat) : ∀ x ∈ totalsOf z n, (Lit.int .i64 x).wf = true := by
  unfold totalsOf
  split
  · rename_i h; exact totals_wf (sheetOk_t h)
  · intro x hx; cases hx
theorem totalsOf_len (z : Nat → List Int) (n : Nat) : (totalsOf z n).length ≤ 12 := by
  unfold totalsOf
  split
  · rename_i h; rw [totals_len]; exact (sheetOk_t h).m12
  · simp
end Go.Proofs.Ytmpadppnhhamhaa
