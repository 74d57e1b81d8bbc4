/- Plain functions on sheets: sums without the greatest and the least points. No program in sight. -/
import Derived.Test.YtmpadppnhhamhaaPureT
namespace Go.Proofs.Ytmpadppnhhamhaa
def lowTo (z : Nat → List Int) (i : Nat) : Nat → Int
  | 0 => 100
  | j + 1 => min (lowTo z i j) (nth (z j) i)
def highTo (z : Nat → List Int) (i : Nat) : Nat → Int
  | 0 => 0
  | j + 1 => max (highTo z i j) (nth (z j) i)
def trim1 (z : Nat → List Int) (n i : Nat) : Int := colSum z n i - (lowTo z i n + highTo z i n)
def trimUp (z : Nat → List Int) (m n i : Nat) : List Int := (List.range m).map fun c => if c < i then trim1 z n c else colSum z n c
def trims (z : Nat → List Int) (m n : Nat) : List Int := (List.range m).map (trim1 z n)
def trimmedOf (z : Nat → List Int) (n : Nat) : List Int := if sheetOk z n then (if n < 3 then totals z (z 0).length n else trims z (z 0).length n) else []
theorem trims_len (z : Nat → List Int) (m n : Nat) : (trims z m n).length = m := by simp [trims]
theorem trimUp_len (z : Nat → List Int) (m n i : Nat) : (trimUp z m n i).length = m := by simp [trimUp]
theorem nth_trimUp {z : Nat → List Int} {m n i c : Nat} (h : c < m) : nth (trimUp z m n i) c = if c < i then trim1 z n c else colSum z n c := nth_map_range h
theorem nth_trims {z : Nat → List Int} {m n c : Nat} (h : c < m) : nth (trims z m n) c = trim1 z n c := nth_map_range h
theorem trimUp_start (z : Nat → List Int) (m n : Nat) : trimUp z m n 0 = totals z m n := by
  unfold trimUp totals
  refine List.map_congr_left fun c _ => ?_
  rw [if_neg (by omega)]
theorem trimUp_end (z : Nat → List Int) (m n : Nat) : trimUp z m n m = trims z m n := by
  unfold trimUp trims
  refine List.map_congr_left fun c hc => ?_
  have := List.mem_range.1 hc
  rw [if_pos (by omega)]
theorem trimUp_set {z : Nat → List Int} {m n i : Nat} (hi : i < m) : (trimUp z m n i).set i (trim1 z n i) = trimUp z m n (i + 1) := by
  apply list_ext_nth
  · rw [List.length_set, trimUp_len, trimUp_len]
  · intro c hc
    rw [List.length_set, trimUp_len] at hc
    rw [nth_set (by rw [trimUp_len]; exact hi), nth_trimUp hc, nth_trimUp hc]
    by_cases e : c = i
    · subst e
      rw [if_pos rfl, if_pos (by omega)]
    · rw [if_neg e]
      by_cases h : c < i
      · rw [if_pos h, if_pos (by omega)]
      · rw [if_neg h, if_neg (by omega)]
theorem low_bd {z : Nat → List Int} {n m : Nat} (h : Sheet z n m) {i : Nat} (hi : i < m) : ∀ j, j ≤ n → 0 ≤ lowTo z i j ∧ lowTo z i j ≤ 100 := by
  intro j
  induction j with
  | zero => intro _; simp [lowTo]
  | succ j ih =>
    intro hj
    have h1 := ih (by omega)
    have h2 := h.bd j (by omega) i hi
    simp only [lowTo]
    omega
theorem high_bd {z : Nat → List Int} {n m : Nat} (h : Sheet z n m) {i : Nat} (hi : i < m) : ∀ j, j ≤ n → 0 ≤ highTo z i j ∧ highTo z i j ≤ 100 := by
  intro j
  induction j with
  | zero => intro _; simp [highTo]
  | succ j ih =>
    intro hj
    have h1 := ih (by omega)
    have h2 := h.bd j (by omega) i hi
    simp only [highTo]
    omega
theorem low_first {z : Nat → List Int} {n m : Nat} (h : Sheet z n m) {i : Nat} (hi : i < m) : ∀ j, j + 1 ≤ n → lowTo z i (j + 1) ≤ nth (z 0) i := by
  intro j
  induction j with
  | zero => intro _; simp only [lowTo]; omega
  | succ j ih =>
    intro hj
    have h1 := ih (by omega)
    rw [lowTo]
    omega
theorem high_first {z : Nat → List Int} {n m : Nat} (h : Sheet z n m) {i : Nat} (hi : i < m) : ∀ j, j + 1 ≤ n → nth (z 0) i ≤ highTo z i (j + 1) := by
  intro j
  induction j with
  | zero => intro _; simp only [highTo]; omega
  | succ j ih =>
    intro hj
    have h1 := ih (by omega)
    rw [highTo]
    omega
def lowS (z : Nat → List Int) (i j : Nat) : Int := min (nth (z 0) i) (lowTo z i j)
def highS (z : Nat → List Int) (i j : Nat) : Int := max (nth (z 0) i) (highTo z i j)
theorem lowS_zero {z : Nat → List Int} {n m : Nat} (h : Sheet z n m) {i : Nat} (hi : i < m) : nth (z 0) i = lowS z i 0 := by
  have := h.bd 0 (by have := h.n1; omega) i hi
  simp only [lowS, lowTo]; omega
theorem highS_zero {z : Nat → List Int} {n m : Nat} (h : Sheet z n m) {i : Nat} (hi : i < m) : nth (z 0) i = highS z i 0 := by
  have := h.bd 0 (by have := h.n1; omega) i hi
  simp only [highS, highTo]; omega
theorem lowS_next (z : Nat → List Int) (i j : Nat) : lowS z i (j + 1) = min (lowS z i j) (nth (z j) i) := by simp only [lowS, lowTo]; omega
theorem highS_next (z : Nat → List Int) (i j : Nat) : highS z i (j + 1) = max (highS z i j) (nth (z j) i) := by simp only [highS, highTo]; omega
theorem lowS_end {z : Nat → List Int} {n m : Nat} (h : Sheet z n m) {i : Nat} (hi : i < m) : lowS z i n = lowTo z i n := by
  obtain ⟨r, rfl⟩ : ∃ r, n = r + 1 := ⟨n - 1, by have := h.n1; omega⟩
  have := low_first h hi r (Nat.le_refl _)
  simp only [lowS]; omega
theorem highS_end {z : Nat → List Int} {n m : Nat} (h : Sheet z n m) {i : Nat} (hi : i < m) : highS z i n = highTo z i n := by
  obtain ⟨r, rfl⟩ : ∃ r, n = r + 1 := ⟨n - 1, by have := h.n1; omega⟩
  have := high_first h hi r (Nat.le_refl _)
  simp only [highS]; omega
theorem trim1_bd {z : Nat → List Int} {n m : Nat} (h : Sheet z n m) {i : Nat} (hi : i < m) : -200 ≤ trim1 z n i ∧ trim1 z n i ≤ 900 := by
  have h1 := colSum_bd h hi n (Nat.le_refl _)
  have h2 := low_bd h hi n (Nat.le_refl _)
  have h3 := high_bd h hi n (Nat.le_refl _)
  have h4 := h.n9
  unfold trim1
  omega
theorem trimmedOf_wf (z : Nat → List Int) (n : Nat) : ∀ x ∈ trimmedOf z n, (Lit.int .i64 x).wf = true := by
  unfold trimmedOf
  split
  · rename_i h
    split
    · exact totals_wf (sheetOk_t h)
    · intro x hx
      simp only [trims, List.mem_map, List.mem_range] at hx
      obtain ⟨i, hi, rfl⟩ := hx
      have := trim1_bd (sheetOk_t h) hi
      exact WalkArith.wf_i64 (by omega)
  · intro x hx; cases hx
theorem trimmedOf_len (z : Nat → List Int) (n : Nat) : (trimmedOf z n).length ≤ 12 := by
  unfold trimmedOf
  split
  · rename_i h
    have := (sheetOk_t h).m12
    split
    · rw [totals_len]; exact this
    · rw [trims_len]; exact this
  · simp
end Go.Proofs.Ytmpadppnhhamhaa
