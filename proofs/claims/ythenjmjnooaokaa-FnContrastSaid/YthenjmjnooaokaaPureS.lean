/- Plain functions on stocks: lists of six numbers; what is lacking; how often there is enough. No program in sight. -/
import Derived.Test.YthenjmjnooaokaaPureB
namespace Go.Proofs.Ythenjmjnooaokaa
/-- six numbers from a to b -/
def okList (zs : List Int) (n : Nat) (a b : Int) : Bool := ((n : Int) == 6) && allIn zs a b
theorem okList_t {zs : List Int} {n : Nat} {a b : Int} (h : okList zs n a b = true) (hl : zs.length = n) : n = 6 ∧ ∀ i, i < 6 → a ≤ nth zs i ∧ nth zs i ≤ b := by
  simp only [okList, Bool.and_eq_true, beq_iff_eq] at h
  have hn : n = 6 := by omega
  exact ⟨hn, fun i hi => allIn_t h.2 (by omega)⟩
theorem okList_b {zs : List Int} {n : Nat} {a b : Int} (h : allIn zs a b = false) : okList zs n a b = false := by simp [okList, h]
theorem okList_a {zs : List Int} {n : Nat} {a b : Int} (h : allIn zs a b = true) : okList zs n a b = ((n : Int) == 6) := by simp [okList, h]
/-- the first k lacks -/
def lacks (s d : List Int) (k : Nat) : List Int := (List.range k).map fun i => max (nth d i - nth s i) 0
theorem lacks_len (s d : List Int) (k : Nat) : (lacks s d k).length = k := by simp [lacks]
theorem lacks_snoc (s d : List Int) (k : Nat) : lacks s d (k + 1) = lacks s d k ++ [max (nth d k - nth s k) 0] := by simp [lacks, List.range_succ]
theorem nth_lacks {s d : List Int} {k i : Nat} (h : i < k) : nth (lacks s d k) i = max (nth d i - nth s i) 0 := nth_map_range h
def lackOf (s d : List Int) (n m : Nat) : List Int := if okList s n 0 1000000 && okList d m 0 1000000 then lacks s d 6 else []
/-- how often there is enough, by the first k numbers -/
def timesTo (s d : List Int) : Nat → Int
  | 0 => 1000000
  | k + 1 => if nth d k > 0 then min (timesTo s d k) (nth s k / nth d k) else timesTo s d k
theorem timesTo_bd (s d : List Int) (h : ∀ i, i < 6 → 0 ≤ nth s i) (k : Nat) : k ≤ 6 → 0 ≤ timesTo s d k ∧ timesTo s d k ≤ 1000000 := by
  induction k with
  | zero => intro _; simp [timesTo]
  | succ k ih =>
    intro hk
    have h1 := ih (by omega)
    simp only [timesTo]
    split
    · have h2 : 0 ≤ nth s k / nth d k := Int.ediv_nonneg (h k (by omega)) (by omega)
      omega
    · exact h1
def timesEnough (s d : List Int) (n m : Nat) : Int := if okList s n 0 1000000 && okList d m 0 1000000 then timesTo s d 6 else -1
def enoughFor (s d : List Int) (n m : Nat) : Bool := okList s n 0 1000000 && okList d m 0 1000000 && (List.range 6).all fun i => decide (nth d i ≤ nth s i)
theorem lacks_wf {s d : List Int} (hs : ∀ i, i < 6 → 0 ≤ nth s i ∧ nth s i ≤ 1000000) (hd : ∀ i, i < 6 → 0 ≤ nth d i ∧ nth d i ≤ 1000000) {k : Nat} (hk : k ≤ 6) : ∀ z ∈ lacks s d k, (Lit.int .i64 z).wf = true := by
  intro z hz
  simp only [lacks, List.mem_map, List.mem_range] at hz
  obtain ⟨j, hj, rfl⟩ := hz
  have h1 := hs j (by omega)
  have h2 := hd j (by omega)
  exact WalkArith.wf_i64 (by omega)
theorem lackOf_len (s d : List Int) (n m : Nat) : (lackOf s d n m).length ≤ 6 := by
  unfold lackOf
  split
  · rw [lacks_len]; exact Nat.le_refl _
  · simp
theorem lackOf_wf {s d : List Int} {n m : Nat} (hs : s.length = n) (hd : d.length = m) : ∀ z ∈ lackOf s d n m, (Lit.int .i64 z).wf = true := by
  unfold lackOf
  split
  · rename_i h
    simp only [Bool.and_eq_true] at h
    exact lacks_wf (okList_t h.1 hs).2 (okList_t h.2 hd).2 (Nat.le_refl _)
  · intro z hz; cases hz
theorem enough_lacks (s d : List Int) : (allIn (lacks s d 6) 0 0) = (List.range 6).all fun i => decide (nth d i ≤ nth s i) := by
  rw [Bool.eq_iff_iff]
  simp only [allIn, lacks, List.all_eq_true, List.mem_map, List.mem_range, decide_eq_true_eq]
  constructor
  · intro h i hi
    have := inB_t (h _ ⟨i, hi, rfl⟩)
    omega
  · rintro h z ⟨i, hi, rfl⟩
    have := h i hi
    exact inB_mk (by omega) (by omega)
end Go.Proofs.Ythenjmjnooaokaa
