/- Plain functions on lists of integers. No program in sight. -/
import Derived.Test.YthenjmjnooaokaaPureA
import Derived.Test.YthenjmjnooaokaaBase
namespace Go.Proofs.Ythenjmjnooaokaa
/-- all numbers lie from a to b -/
def allIn (zs : List Int) (a b : Int) : Bool := zs.all fun z => inB z a b
theorem allIn_snoc {zs : List Int} {a b : Int} {k : Nat} (hk : k < zs.length) (h : allIn (zs.take k) a b = true) (hn : inB (nth zs k) a b = true) : allIn (zs.take (k + 1)) a b = true := by
  rw [take_succ_nth hk]
  unfold allIn at h ⊢
  rw [List.all_append, h]
  simp [hn]
theorem allIn_no {zs : List Int} {a b : Int} {k : Nat} (hk : k < zs.length) (hn : inB (nth zs k) a b = false) : allIn zs a b = false := by
  unfold allIn
  rw [List.all_eq_false]
  exact ⟨_, nth_mem hk, by simp [hn]⟩
theorem allIn_t {zs : List Int} {a b : Int} (h : allIn zs a b = true) {i : Nat} (hi : i < zs.length) : a ≤ nth zs i ∧ nth zs i ≤ b :=
  inB_t (List.all_eq_true.1 h _ (nth_mem hi))
/-- the first k numbers of zs, the rest still zero -/
def filled (zs : List Int) (k : Nat) : List Int := zs.take k ++ List.replicate (zs.length - k) 0
theorem filled_zero (zs : List Int) : filled zs 0 = List.replicate zs.length 0 := by simp [filled]
theorem filled_all (zs : List Int) : filled zs zs.length = zs := by simp [filled]
theorem filled_len (zs : List Int) {k : Nat} (hk : k ≤ zs.length) : (filled zs k).length = zs.length := by simp [filled]; omega
theorem filled_set {zs : List Int} {k : Nat} (hk : k < zs.length) : (filled zs k).set k (nth zs k) = filled zs (k + 1) := by
  apply list_ext_nth
  · simp [filled]; omega
  · intro i hi
    have hl : (filled zs k).length = zs.length := filled_len zs (by omega)
    have hi' : i < zs.length := by simpa [hl] using hi
    rw [nth_set (by omega)]
    by_cases e : i = k
    · subst e
      rw [if_pos rfl]
      unfold filled
      rw [nth_append_l (by simp; omega), nth_take (by omega)]
    · rw [if_neg e]
      unfold filled
      by_cases h2 : i < k
      · rw [nth_append_l (by simp; omega), nth_append_l (by simp; omega), nth_take (by omega), nth_take (by omega)]
      · rw [nth_append_r (by simp; omega), nth_append_r (by simp; omega), nth_replicate (by simp; omega), nth_replicate (by simp; omega)]
/-- the numbers k, k + 1, .. -/
def marks (k : Int) (n : Nat) : List Int := (List.range n).map fun j : Nat => k + (j : Int)
theorem marks_len (k : Int) (n : Nat) : (marks k n).length = n := by simp [marks]
theorem nth_marks {k : Int} {n j : Nat} (h : j < n) : nth (marks k n) j = k + j := nth_map_range h
theorem marks_wf {k : Int} {n : Nat} (hk : 0 ≤ k) (hk2 : k ≤ 1000000000) (hn : n ≤ 1048576) : ∀ z ∈ marks k n, (Lit.int .i64 z).wf = true := by
  intro z hz
  simp only [marks, List.mem_map, List.mem_range] at hz
  obtain ⟨j, hj, rfl⟩ := hz
  exact WalkArith.wf_i64 (by omega)
/-- the first i numbers are marked, the rest as they were -/
def marked (zs : List Int) (k : Int) (i : Nat) : List Int := marks k i ++ zs.drop i
theorem marked_zero (zs : List Int) (k : Int) : marked zs k 0 = zs := by simp [marked, marks]
theorem marked_all (zs : List Int) (k : Int) : marked zs k zs.length = marks k zs.length := by simp [marked]
theorem marked_len (zs : List Int) (k : Int) {i : Nat} (hi : i ≤ zs.length) : (marked zs k i).length = zs.length := by simp [marked, marks_len]; omega
theorem marked_set {zs : List Int} {k : Int} {i : Nat} (hi : i < zs.length) : (marked zs k i).set i (k + (i : Int)) = marked zs k (i + 1) := by
  apply list_ext_nth
  · rw [List.length_set, marked_len zs k (by omega), marked_len zs k (by omega)]
  · intro j hj
    rw [List.length_set, marked_len zs k (by omega)] at hj
    rw [nth_set (by rw [marked_len zs k (by omega)]; exact hi)]
    by_cases e : j = i
    · subst e
      rw [if_pos rfl]
      unfold marked
      rw [nth_append_l (by rw [marks_len]; omega), nth_marks (by omega)]
    · rw [if_neg e]
      unfold marked
      by_cases h2 : j < i
      · rw [nth_append_l (by rw [marks_len]; omega), nth_append_l (by rw [marks_len]; omega), nth_marks (by omega), nth_marks (by omega)]
      · rw [nth_append_r (by rw [marks_len]; omega), nth_append_r (by rw [marks_len]; omega), marks_len, marks_len]
        simp only [nth, List.getD, List.getElem?_drop]
        congr 2
        omega
end Go.Proofs.Ythenjmjnooaokaa
