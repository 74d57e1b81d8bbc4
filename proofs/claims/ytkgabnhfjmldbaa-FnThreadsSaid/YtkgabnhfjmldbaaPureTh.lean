/- Plain functions on drawings of lines: ends, odd points, parts, the number of threads. No program in sight. -/
import Derived.Test.YtkgabnhfjmldbaaPureLab
import Derived.Test.YtkgabnhfjmldbaaPureJ
namespace Go.Proofs.Ytkgabnhfjmldbaa
def lnU (f : Nat → Nat → Int) (k : Nat) : Nat := (f k 0).toNat
def lnV (f : Nat → Nat → Int) (k : Nat) : Nat := (f k 1).toNat
def lineOk (n : Int) (q : Nat → Int) : Bool := inB (q 0) 0 (n - 1) && inB (q 1) 0 (n - 1) && !(q 0 == q 1)
def linesOk (n : Int) (l : Nat) (f : Nat → Nat → Int) : Bool := inB n 1 10 && decide (l ≤ 20) && allTo (fun k => lineOk n (f k)) l
structure Lines (n : Int) (l : Nat) (f : Nat → Nat → Int) : Prop where
  n1 : 1 ≤ n
  n10 : n ≤ 10
  l20 : l ≤ 20
  ok : ∀ k, k < l → 0 ≤ f k 0 ∧ f k 0 < n ∧ 0 ≤ f k 1 ∧ f k 1 < n ∧ f k 0 ≠ f k 1
theorem lineOk_t {n : Int} {q : Nat → Int} (h : lineOk n q = true) : 0 ≤ q 0 ∧ q 0 < n ∧ 0 ≤ q 1 ∧ q 1 < n ∧ q 0 ≠ q 1 := by
  unfold lineOk at h
  simp only [Bool.and_eq_true, Bool.not_eq_true', beq_eq_false_iff_ne] at h
  have h1 := inB_t h.1.1
  have h2 := inB_t h.1.2
  exact ⟨h1.1, by omega, h2.1, by omega, h.2⟩
theorem lines_of {n : Int} {l : Nat} {f : Nat → Nat → Int} (h : linesOk n l f = true) : Lines n l f := by
  unfold linesOk at h
  have h1 := Bool.and_eq_true_iff.1 h
  have h2 := Bool.and_eq_true_iff.1 h1.1
  have hb := inB_t h2.1
  exact ⟨hb.1, hb.2, of_decide_eq_true h2.2, fun k hk => lineOk_t (allTo_iff.1 h1.2 k hk)⟩
theorem lines_no {n : Int} {l k : Nat} {f : Nat → Nat → Int} (h : k < l) (e : lineOk n (f k) = false) : linesOk n l f = false := by
  unfold linesOk
  rw [allTo_no (p := fun k => lineOk n (f k)) h e, Bool.and_false]
/-- how many of the first k lines end at a point -/
def degTo (f : Nat → Nat → Int) (p : Nat) : Nat → Nat
  | 0 => 0
  | k + 1 => degTo f p k + (if f k 0 = p then 1 else 0) + (if f k 1 = p then 1 else 0)
theorem degTo_bd (f : Nat → Nat → Int) (p k : Nat) : degTo f p k ≤ 2 * k := by
  induction k with
  | zero => exact Nat.le_refl _
  | succ k ih => simp only [degTo]; split <;> split <;> omega
def degs (N : Nat) (f : Nat → Nat → Int) (k : Nat) : List Int := (List.range N).map fun p => (degTo f p k : Int)
theorem degs_len (N : Nat) (f : Nat → Nat → Int) (k : Nat) : (degs N f k).length = N := by simp [degs]
theorem degs_nth {N p : Nat} (f : Nat → Nat → Int) (k : Nat) (h : p < N) : nth (degs N f k) p = (degTo f p k : Int) := nth_map_range (f := fun p => (degTo f p k : Int)) h
theorem degs_zero (N : Nat) (f : Nat → Nat → Int) : degs N f 0 = List.replicate N 0 := by
  apply list_ext_nth (by simp [degs])
  intro i hi
  rw [degs_len] at hi
  rw [degs_nth f 0 hi, nth_replicate hi]
  rfl
/-- a line adds one at both of its ends -/
theorem degs_step {N k : Nat} {f : Nat → Nat → Int} (h1 : 0 ≤ f k 0) (h2 : f k 0 < N) (h3 : 0 ≤ f k 1) (h4 : f k 1 < N) (h5 : f k 0 ≠ f k 1) :
    ((degs N f k).set (f k 0).toNat (nth (degs N f k) (f k 0).toNat + 1)).set (f k 1).toNat (nth ((degs N f k).set (f k 0).toNat (nth (degs N f k) (f k 0).toNat + 1)) (f k 1).toNat + 1) = degs N f (k + 1) := by
  apply list_ext_nth (by simp [degs])
  intro i hi
  simp only [List.length_set, degs_len] at hi
  have hl := degs_len N f k
  rw [nth_set (by rw [List.length_set, hl]; omega), nth_set (by rw [hl]; omega), nth_set (by rw [hl]; omega), degs_nth f (k + 1) hi, degs_nth f k hi]
  have e1 : nth (degs N f k) (f k 0).toNat = (degTo f (f k 0).toNat k : Int) := degs_nth f k (by omega)
  have e2 : nth (degs N f k) (f k 1).toNat = (degTo f (f k 1).toNat k : Int) := degs_nth f k (by omega)
  rw [e1, e2]
  simp only [degTo]
  by_cases q1 : i = (f k 1).toNat
  · rw [if_pos q1, if_neg (by omega), if_neg (by omega), if_pos (by omega)]
    rw [q1]; omega
  · rw [if_neg q1]
    by_cases q0 : i = (f k 0).toNat
    · rw [if_pos q0, if_pos (by omega), if_neg (by omega), q0]; omega
    · rw [if_neg q0, if_neg (by omega), if_neg (by omega)]; omega
def labs (N : Nat) (lab : Nat → Nat) : List Int := (List.range N).map fun p => (lab p : Int)
theorem labs_len (N : Nat) (lab : Nat → Nat) : (labs N lab).length = N := by simp [labs]
theorem labs_nth {N p : Nat} (lab : Nat → Nat) (h : p < N) : nth (labs N lab) p = (lab p : Int) := nth_map_range (f := fun p => (lab p : Int)) h
theorem labs_congr {N : Nat} {lab lab' : Nat → Nat} (h : ∀ i, i < N → lab i = lab' i) : labs N lab = labs N lab' := by
  apply list_ext_nth (by simp [labs])
  intro i hi
  rw [labs_len] at hi
  rw [labs_nth lab hi, labs_nth lab' hi, h i hi]
theorem labs_snoc (N : Nat) (lab : Nat → Nat) : labs (N + 1) lab = labs N lab ++ [(lab N : Int)] := by simp [labs, List.range_succ]
theorem relax_step {N a b : Nat} (lab : Nat → Nat) (ha : a < N) (hb : b < N) :
    ((labs N lab).set a (min (lab a) (lab b) : Nat)).set b (min (lab a) (lab b) : Nat) = labs N (relax lab a b) := by
  apply list_ext_nth (by simp [labs])
  intro i hi
  simp only [List.length_set, labs_len] at hi
  have hl := labs_len N lab
  rw [nth_set (by rw [List.length_set, hl]; omega), nth_set (by rw [hl]; omega), labs_nth _ hi, labs_nth _ hi]
  unfold relax
  by_cases q1 : i = b
  · rw [if_pos q1, if_pos (Or.inr q1)]
  · rw [if_neg q1]
    by_cases q0 : i = a
    · rw [if_pos q0, if_pos (Or.inl q0)]
    · rw [if_neg q0, if_neg (by omega)]
/-- the labels while all points below j have been looked at -/
def mergeP (lab : Nat → Nat) (a b j : Nat) : Nat → Nat := fun i => if i < j then merge lab a b i else lab i
theorem mergeP_zero (lab : Nat → Nat) (a b : Nat) : mergeP lab a b 0 = lab := by funext i; unfold mergeP; rw [if_neg (by omega)]
theorem mergeP_self (lab : Nat → Nat) (a b j : Nat) : mergeP lab a b j j = lab j := by unfold mergeP; rw [if_neg (by omega)]
theorem mergeP_yes {N a b j : Nat} {lab : Nat → Nat} (hj : j < N) (h : lab j = max (lab a) (lab b)) : (labs N (mergeP lab a b j)).set j (min (lab a) (lab b) : Nat) = labs N (mergeP lab a b (j + 1)) := by
  apply list_ext_nth (by simp [labs])
  intro i hi
  simp only [List.length_set, labs_len] at hi
  rw [nth_set (by rw [labs_len]; omega), labs_nth _ hi, labs_nth _ hi]
  unfold mergeP
  by_cases q : i = j
  · rw [if_pos q, if_pos (by omega), q]; unfold merge; rw [if_pos h]
  · rw [if_neg q]
    by_cases q2 : i < j
    · rw [if_pos q2, if_pos (by omega)]
    · rw [if_neg q2, if_neg (by omega)]
theorem mergeP_no {N a b j : Nat} {lab : Nat → Nat} (h : lab j ≠ max (lab a) (lab b)) : labs N (mergeP lab a b j) = labs N (mergeP lab a b (j + 1)) := by
  apply labs_congr
  intro i _
  unfold mergeP
  by_cases q : i = j
  · rw [if_neg (by omega), if_pos (by omega), q]; unfold merge; rw [if_neg h]
  · by_cases q2 : i < j
    · rw [if_pos q2, if_pos (by omega)]
    · rw [if_neg q2, if_neg (by omega)]
theorem mergeP_all {N a b : Nat} (lab : Nat → Nat) : labs N (mergeP lab a b N) = labs N (merge lab a b) := labs_congr fun i hi => by unfold mergeP; rw [if_pos hi]
/-- the part of a point: the least point that can be reached -/
def part_ (f : Nat → Nat → Int) (l : Nat) : Nat → Nat := mergeTo (lnU f) (lnV f) l
def isHead (f : Nat → Nat → Int) (l p : Nat) : Bool := decide (0 < degTo f p l) && part_ f l p == p
def isOdd (f : Nat → Nat → Int) (l p : Nat) : Bool := degTo f p l % 2 == 1
def heads (N : Nat) (f : Nat → Nat → Int) (l : Nat) : List Int := membs (isHead f l) N
def odds (N : Nat) (f : Nat → Nat → Int) (l : Nat) : List Int := membs (isOdd f l) N
/-- how many odd points the part of h has -/
def oddIn (N : Nat) (f : Nat → Nat → Int) (l h : Nat) : Nat := cnt (fun p => isOdd f l p && part_ f l p == h) N
def thrTo (N : Nat) (f : Nat → Nat → Int) (l : Nat) : Nat → Nat
  | 0 => 0
  | k + 1 => thrTo N f l k + (if isHead f l k then max 1 (oddIn N f l k / 2) else 0)
def threads (n : Int) (l : Nat) (f : Nat → Nat → Int) : Int := if linesOk n l f then (thrTo n.toNat f l n.toNat : Int) else -1
def oddPts (n : Int) (l : Nat) (f : Nat → Nat → Int) : List Int := if linesOk n l f then odds n.toNat f l else []
theorem cnt_bd (p : Nat → Bool) (n : Nat) : cnt p n ≤ n := cnt_le p n
theorem thrTo_bd (N : Nat) (f : Nat → Nat → Int) (l k : Nat) : thrTo N f l k ≤ (N + 1) * k := by
  induction k with
  | zero => exact Nat.zero_le _
  | succ k ih =>
    have := cnt_le (fun p => isOdd f l p && part_ f l p == k) N
    have h2 : oddIn N f l k ≤ N := this
    simp only [thrTo, Nat.mul_succ]
    split <;> omega
theorem membs_len2 (p : Nat → Bool) (N : Nat) : (membs p N).length ≤ N := by
  unfold membs
  rw [List.length_map]
  exact Nat.le_trans (List.length_filter_le _ _) (by simp)
/-- how often a property holds among the first j numbers of a list -/
def cntL (q : Nat → Bool) (L : List Int) : Nat → Nat
  | 0 => 0
  | j + 1 => cntL q L j + (if q (nth L j).toNat then 1 else 0)
theorem cntL_bd (q : Nat → Bool) (L : List Int) (j : Nat) : cntL q L j ≤ j := by
  induction j with
  | zero => exact Nat.le_refl _
  | succ j ih => simp only [cntL]; split <;> omega
theorem cntL_append {q : Nat → Bool} {L M : List Int} {j : Nat} (h : j ≤ L.length) : cntL q (L ++ M) j = cntL q L j := by
  induction j with
  | zero => rfl
  | succ j ih => simp only [cntL, ih (by omega), nth_append_l (show j < L.length by omega)]
theorem cntL_membs (p q : Nat → Bool) (N : Nat) : cntL q (membs p N) (membs p N).length = cnt (fun x => p x && q x) N := by
  induction N with
  | zero => rfl
  | succ N ih =>
    rw [membs_succ]
    simp only [cnt]
    rcases (Bool.eq_false_or_eq_true (p N)).symm with hp | hp
    · simp only [hp, Bool.false_eq_true, if_false, List.append_nil, ih, Bool.false_and, Nat.add_zero]
    · simp only [hp, if_true, Bool.true_and, List.length_append, List.length_cons, List.length_nil, Nat.zero_add, cntL, cntL_append (Nat.le_refl _), ih, nth_snoc, Int.toNat_natCast]
/-- the sum of a value over the first j numbers of a list -/
def sumL (g : Nat → Nat) (L : List Int) : Nat → Nat
  | 0 => 0
  | j + 1 => sumL g L j + g (nth L j).toNat
theorem sumL_append {g : Nat → Nat} {L M : List Int} {j : Nat} (h : j ≤ L.length) : sumL g (L ++ M) j = sumL g L j := by
  induction j with
  | zero => rfl
  | succ j ih => simp only [sumL, ih (by omega), nth_append_l (show j < L.length by omega)]
theorem sumL_heads (N : Nat) (f : Nat → Nat → Int) (l k : Nat) : sumL (fun h => max 1 (oddIn N f l h / 2)) (membs (isHead f l) k) (membs (isHead f l) k).length = thrTo N f l k := by
  induction k with
  | zero => rfl
  | succ k ih =>
    rw [membs_succ]
    simp only [thrTo]
    rcases (Bool.eq_false_or_eq_true (isHead f l k)).symm with hp | hp
    · simp only [hp, Bool.false_eq_true, if_false, List.append_nil, ih, Nat.add_zero]
    · simp only [hp, if_true, List.length_append, List.length_cons, List.length_nil, Nat.zero_add, sumL, sumL_append (Nat.le_refl _), ih, nth_snoc, Int.toNat_natCast]
theorem sumL_mono (g : Nat → Nat) (L : List Int) {j k : Nat} (h : j ≤ k) : sumL g L j ≤ sumL g L k := by
  induction h with
  | refl => exact Nat.le_refl _
  | step _ ih => simp only [sumL]; omega
end Go.Proofs.Ytkgabnhfjmldbaa
