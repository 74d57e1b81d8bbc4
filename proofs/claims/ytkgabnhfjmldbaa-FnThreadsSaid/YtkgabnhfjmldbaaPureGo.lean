/- Plain functions: what the two programs ask before a step of the walk, and where the walk starts. No program in sight. -/
import Derived.Test.YtkgabnhfjmldbaaPureEv
namespace Go.Proofs.Ytkgabnhfjmldbaa
open Eu
theorem membs_cnt (p : Nat → Bool) (N : Nat) : (membs p N).length = cnt p N := by
  induction N with
  | zero => rfl
  | succ N ih =>
    rw [membs_succ, List.length_append, ih]
    simp only [cnt]
    split <;> rfl
/-- a part's least point has lines where any of its points has -/
theorem part_deg {N : Nat} {f : Nat → Nat → Int} {l : Nat} (hin : inN N f l) (i : Nat) : 0 < degTo f (part_ f l i) l ↔ 0 < degTo f i l := by
  have h := mergeTo_const (u := lnU f) (v := lnV f) (F := fun x => if 0 < degTo f x l then 1 else 0) l (fun j hj => by
    have hj2 := hin j hj
    have a : 0 < deg (edges f l) (f j 0) := deg_pos (e := (f j 0, f j 1)) (edges_mem.2 ⟨j, hj, rfl⟩) (Or.inl rfl)
    have b : 0 < deg (edges f l) (f j 1) := deg_pos (e := (f j 0, f j 1)) (edges_mem.2 ⟨j, hj, rfl⟩) (Or.inr rfl)
    rw [show f j 0 = ((lnU f j : Nat) : Int) by unfold lnU; omega, deg_edges] at a
    rw [show f j 1 = ((lnV f j : Nat) : Int) by unfold lnV; omega, deg_edges] at b
    rw [if_pos a, if_pos b]) i
  unfold part_
  constructor
  · intro q
    rw [if_pos q] at h
    rcases Nat.lt_or_ge 0 (degTo f i l) with r | r
    · exact r
    · rw [if_neg (by omega)] at h; cases h
  · intro q
    rw [if_pos q] at h
    rcases Nat.lt_or_ge 0 (degTo f (mergeTo (lnU f) (lnV f) l i) l) with r | r
    · exact r
    · rw [if_neg (by omega)] at h; cases h
theorem part_le (f : Nat → Nat → Int) (l i : Nat) : part_ f l i ≤ i := mergeTo_le l i
theorem part_idem (f : Nat → Nat → Int) (l i : Nat) : part_ f l (part_ f l i) = part_ f l i := mergeTo_idem l i
theorem head_part {N : Nat} {f : Nat → Nat → Int} {l i : Nat} (hin : inN N f l) (h : 0 < degTo f i l) : isHead f l (part_ f l i) = true := by
  unfold isHead
  rw [decide_eq_true ((part_deg hin i).2 h), part_idem]
  simp
theorem heads_all {N : Nat} {f : Nat → Nat → Int} {l : Nat} (hin : inN N f l) (h : cnt (isHead f l) N = 1) : ∃ p, p < N ∧ isHead f l p = true ∧ ∀ i, i < N → 0 < degTo f i l → part_ f l i = p := by
  obtain ⟨p, hp, h1, h2⟩ := cnt_one h
  exact ⟨p, hp, h1, fun i hi hd => h2 _ (by have := part_le f l i; omega) (head_part hin hd)⟩
/-- what the program asks of the parts is what the reference asks -/
theorem heads_one {N : Nat} {f : Nat → Nat → Int} {l v : Nat} (hin : inN N f l) (hv : v < N) (hd : 0 < degTo f v l) :
    (cnt (isHead f l) N == 1) = allTo (fun i => degTo f i l == 0 || part_ f l i == part_ f l v) N := by
  rcases (Bool.eq_false_or_eq_true (allTo (fun i => degTo f i l == 0 || part_ f l i == part_ f l v) N)).symm with h | h
  · rw [h, beq_eq_false_iff_ne]
    intro h1
    obtain ⟨p, _, _, h2⟩ := heads_all hin h1
    have : allTo (fun i => degTo f i l == 0 || part_ f l i == part_ f l v) N = true := by
      rw [allTo_iff]
      intro i hi
      rcases Nat.eq_zero_or_pos (degTo f i l) with q | q
      · simp [q]
      · simp [h2 i hi q, h2 v hv hd]
    rw [this] at h; cases h
  · rw [h, beq_iff_eq]
    have hs := fun i hi => allTo_iff.1 h i hi
    have hp : part_ f l v < N := by have := part_le f l v; omega
    rw [cnt_without hp (head_part hin hd)]
    have h0 : ∀ n, cnt (fun _ => false) n = 0 := by intro n; induction n with
      | zero => rfl
      | succ n ih => simp [cnt, ih]
    have h1 := cnt_mono (p := fun x => isHead f l x && !(x == part_ f l v)) (q := fun _ => false) (n := N) fun i hi e => by
      exfalso
      simp only [Bool.and_eq_true, Bool.not_eq_true', beq_eq_false_iff_ne] at e
      have h2 := e.1
      unfold isHead at h2
      simp only [Bool.and_eq_true, decide_eq_true_eq, beq_iff_eq] at h2
      have h3 := hs i hi
      simp only [Bool.or_eq_true, beq_iff_eq] at h3
      omega
    rw [h0] at h1
    omega
/-- the sum of all ends -/
def degSum (f : Nat → Nat → Int) (l : Nat) : Nat → Nat
  | 0 => 0
  | k + 1 => degSum f l k + degTo f k l
theorem degSum_zero (f : Nat → Nat → Int) (k : Nat) : degSum f 0 k = 0 := by
  induction k with
  | zero => rfl
  | succ k ih => simp only [degSum, ih, degTo]
theorem degSum_step (f : Nat → Nat → Int) (l k : Nat) : degSum f (l + 1) k = degSum f l k + (if 0 ≤ f l 0 ∧ f l 0 < k then 1 else 0) + (if 0 ≤ f l 1 ∧ f l 1 < k then 1 else 0) := by
  induction k with
  | zero =>
    simp only [degSum]
    rw [if_neg (by omega), if_neg (by omega)]
  | succ k ih =>
    simp only [degSum, ih, degTo]
    have e0 : (if 0 ≤ f l 0 ∧ f l 0 < ((k + 1 : Nat) : Int) then 1 else 0) = (if 0 ≤ f l 0 ∧ f l 0 < (k : Int) then 1 else 0) + (if f l 0 = (k : Int) then 1 else 0) := by
      by_cases a : 0 ≤ f l 0 ∧ f l 0 < (k : Int)
      · rw [if_pos a, if_pos (by omega), if_neg (by omega)]
      · rw [if_neg a]
        by_cases b : f l 0 = (k : Int)
        · rw [if_pos b, if_pos (by omega)]
        · rw [if_neg b, if_neg (by omega)]
    have e1 : (if 0 ≤ f l 1 ∧ f l 1 < ((k + 1 : Nat) : Int) then 1 else 0) = (if 0 ≤ f l 1 ∧ f l 1 < (k : Int) then 1 else 0) + (if f l 1 = (k : Int) then 1 else 0) := by
      by_cases a : 0 ≤ f l 1 ∧ f l 1 < (k : Int)
      · rw [if_pos a, if_pos (by omega), if_neg (by omega)]
      · rw [if_neg a]
        by_cases b : f l 1 = (k : Int)
        · rw [if_pos b, if_pos (by omega)]
        · rw [if_neg b, if_neg (by omega)]
    rw [e0, e1]
    omega
theorem degSum_all {N : Nat} {f : Nat → Nat → Int} : ∀ {l : Nat}, inN N f l → degSum f l N = 2 * l
  | 0, _ => degSum_zero f N
  | l + 1, h => by
    have ih := degSum_all (N := N) (f := f) (l := l) fun k hk => h k (by omega)
    have hl := h l (by omega)
    rw [degSum_step, ih, if_pos ⟨hl.1, hl.2.1⟩, if_pos ⟨hl.2.2.1, hl.2.2.2.1⟩]
    omega
theorem odd_sum (f : Nat → Nat → Int) (l k : Nat) : cnt (isOdd f l) k % 2 = degSum f l k % 2 := by
  induction k with
  | zero => rfl
  | succ k ih =>
    simp only [cnt, degSum]
    rcases (Bool.eq_false_or_eq_true (isOdd f l k)).symm with q | q
    · rw [if_neg (by rw [q]; decide)]
      unfold isOdd at q
      have := beq_eq_false_iff_ne.1 q
      omega
    · rw [if_pos q]
      unfold isOdd at q
      have := beq_iff_eq.1 q
      omega
/-- the number of odd points is even -/
theorem odd_even {N : Nat} {f : Nat → Nat → Int} {l : Nat} (h : inN N f l) : cnt (isOdd f l) N % 2 = 0 := by
  rw [odd_sum, degSum_all h]; omega
theorem thr_heads (N : Nat) (f : Nat → Nat → Int) (l k : Nat) : cnt (isHead f l) k ≤ thrTo N f l k := by
  induction k with
  | zero => exact Nat.le_refl _
  | succ k ih =>
    simp only [cnt, thrTo]
    split <;> omega
theorem thr_none (N : Nat) (f : Nat → Nat → Int) (l k : Nat) (h : cnt (isHead f l) k = 0) : thrTo N f l k = 0 := by
  induction k with
  | zero => rfl
  | succ k ih =>
    simp only [cnt] at h
    simp only [thrTo]
    have : isHead f l k = false := by
      rcases Bool.eq_false_or_eq_true (isHead f l k) with q | q
      · rw [if_pos q] at h; omega
      · exact q
    rw [ih (by omega), this]
    rfl
/-- with one part the threads are those of that part -/
theorem thr_one {N p : Nat} {f : Nat → Nat → Int} {l : Nat} : ∀ k, p < k → isHead f l p = true → (∀ i, i < k → isHead f l i = true → i = p) → thrTo N f l k = max 1 (oddIn N f l p / 2) := by
  intro k
  induction k with
  | zero => intro h; omega
  | succ k ih =>
    intro hp h1 h2
    simp only [thrTo]
    rcases (by omega : p < k ∨ p = k) with q | q
    · rw [ih q h1 fun i hi => h2 i (by omega)]
      have : isHead f l k = false := by
        rcases Bool.eq_false_or_eq_true (isHead f l k) with r | r
        · have := h2 k (by omega) r; omega
        · exact r
      rw [this]
      rfl
    · subst q
      rw [if_pos h1, thr_none N f l p, Nat.zero_add]
      have h0 : ∀ n, cnt (fun _ => false) n = 0 := by intro n; induction n with
        | zero => rfl
        | succ n ih => simp [cnt, ih]
      have h3 := cnt_mono (p := isHead f l) (q := fun _ => false) (n := p) fun i hi e => by have := h2 i (by omega) e; omega
      rw [h0] at h3
      omega
theorem odd_deg {f : Nat → Nat → Int} {l i : Nat} (h : isOdd f l i = true) : 0 < degTo f i l := by
  unfold isOdd at h
  have := beq_iff_eq.1 h
  omega
/-- one thread: one part, and two odd points or none -/
theorem thr_is_one {N : Nat} {f : Nat → Nat → Int} {l : Nat} (hin : inN N f l) (h : thrTo N f l N = 1) :
    cnt (isHead f l) N = 1 ∧ (cnt (isOdd f l) N = 0 ∨ cnt (isOdd f l) N = 2) := by
  have h1 := thr_heads N f l N
  have h2 : cnt (isHead f l) N = 1 := by
    rcases (by omega : cnt (isHead f l) N = 0 ∨ cnt (isHead f l) N = 1) with q | q
    · rw [thr_none N f l N q] at h; cases h
    · exact q
  refine ⟨h2, ?_⟩
  obtain ⟨p, hp, h3, h4⟩ := heads_all hin h2
  have h5 : ∀ i, i < N → isHead f l i = true → i = p := fun i hi e => by
    have e2 := e
    unfold isHead at e2
    simp only [Bool.and_eq_true, decide_eq_true_eq, beq_iff_eq] at e2
    rw [← e2.2]
    exact h4 i hi e2.1
  rw [thr_one N hp h3 h5] at h
  have h6 : cnt (isOdd f l) N ≤ oddIn N f l p := cnt_mono fun i hi e => by
    rw [e, h4 i hi (odd_deg e)]
    simp
  have h7 := odd_even hin
  omega
/-- where the walk starts -/
def start (N : Nat) (f : Nat → Nat → Int) (l : Nat) : Int := if 0 < cnt (isOdd f l) N then nth (odds N f l) 0 else nth (heads N f l) 0
theorem membs_first {p : Nat → Bool} {N : Nat} (h : 0 < cnt p N) : ∃ v : Nat, v < N ∧ p v = true ∧ nth (membs p N) 0 = (v : Int) ∧ ∀ i, i < v → p i = false := by
  induction N with
  | zero => simp [cnt] at h
  | succ N ih =>
    rcases Nat.eq_zero_or_pos (cnt p N) with q | q
    · have h0 : membs p N = [] := List.eq_nil_of_length_eq_zero (by rw [membs_cnt, q])
      have hp : p N = true := by
        rcases Bool.eq_false_or_eq_true (p N) with r | r
        · exact r
        · simp only [cnt, q, r] at h; simp at h
      refine ⟨N, by omega, hp, ?_, fun i hi => cnt_zero q i hi⟩
      rw [membs_succ, h0, if_pos hp]
      rfl
    · obtain ⟨v, h1, h2, h3, h4⟩ := ih q
      refine ⟨v, by omega, h2, ?_, h4⟩
      rw [membs_succ, nth_append_l (by rw [membs_cnt]; exact q)]
      exact h3
theorem start_go {N : Nat} {f : Nat → Nat → Int} {l : Nat} (hin : inN N f l) (h : thrTo N f l N = 1) :
    ∃ v : Nat, v < N ∧ start N f l = (v : Int) ∧ canGo N f l v = true ∧ 0 < degTo f v l ∧ (cnt (isOdd f l) N = 0 → nth (heads N f l) 0 = (v : Int) ∧ ∀ i, i < v → degTo f i l = 0) := by
  obtain ⟨h1, h2⟩ := thr_is_one hin h
  have key : ∀ v, v < N → 0 < degTo f v l → (cnt (isOdd f l) N = 0 ∨ cnt (isOdd f l) N = 2 ∧ isOdd f l v = true) → canGo N f l v = true := by
    intro v hv hd ho
    unfold canGo
    rw [← heads_one hin hv hd, h1, decide_eq_true hd]
    rcases ho with ho | ⟨ho, hv2⟩
    · simp [ho]
    · simp [ho, hv2]
  unfold start
  rcases h2 with h2 | h2
  · rw [if_neg (by omega)]
    obtain ⟨v, hv, hp, he, hf⟩ := membs_first (p := isHead f l) (N := N) (by omega)
    have hp2 := hp
    unfold isHead at hp2
    simp only [Bool.and_eq_true, decide_eq_true_eq, beq_iff_eq] at hp2
    refine ⟨v, hv, he, key v hv hp2.1 (.inl h2), hp2.1, fun _ => ⟨he, fun i hi => ?_⟩⟩
    obtain ⟨p, _, _, h4⟩ := heads_all hin h1
    rcases Nat.eq_zero_or_pos (degTo f i l) with q | q
    · exact q
    · exfalso
      have e1 := h4 i (by omega) q
      have e2 := h4 v hv hp2.1
      have := part_le f l i
      rw [hp2.2] at e2
      omega
  · rw [if_pos (by omega)]
    obtain ⟨v, hv, hp, he, _⟩ := membs_first (p := isOdd f l) (N := N) (by omega)
    exact ⟨v, hv, he, key v hv (odd_deg hp) (.inr ⟨h2, hp⟩), odd_deg hp, fun h0 => by omega⟩
/-- the walk over all lines, where one thread does -/
def oneTh (n : Int) (l : Nat) (f : Nat → Nat → Int) : Bool := threads n l f == 1
def oneW (n : Int) (l : Nat) (f : Nat → Nat → Int) : List Int := if oneTh n l f then start n.toNat f l :: walkL n.toNat l f (start n.toNat f l).toNat else []
theorem oneTh_t {n : Int} {l : Nat} {f : Nat → Nat → Int} (h : oneTh n l f = true) : Lines n l f ∧ inN n.toNat f l ∧ thrTo n.toNat f l n.toNat = 1 := by
  unfold oneTh threads at h
  have h1 := beq_iff_eq.1 h
  rcases (Bool.eq_false_or_eq_true (linesOk n l f)).symm with q | q
  · rw [if_neg (by rw [q]; decide)] at h1; omega
  · rw [if_pos q] at h1
    have hL := lines_of q
    refine ⟨hL, fun k hk => ?_, by omega⟩
    have := hL.ok k hk
    have := hL.n1
    omega
theorem walkL_mem {N : Nat} : ∀ (l : Nat) (f : Nat → Nat → Int) (now : Nat), inN N f l → now < N → canGo N f l now = true → ∀ z ∈ walkL N l f now, 0 ≤ z ∧ z < N
  | 0, f, now, _, _, _ => by intro z hz; cases hz
  | l + 1, f, now, hin, hn, hg => by
    obtain ⟨t, k, hb, ht, hk, hN⟩ := best_next hin hn (by omega) hg
    rw [walkL_next hb (by omega)]
    intro z hz
    rcases List.mem_cons.1 hz with rfl | hz
    · omega
    · exact walkL_mem l (rem f k) t (inN_rem hin hk) ht (next_go hN) z hz
theorem oneW_bd (n : Int) (l : Nat) (f : Nat → Nat → Int) : (oneW n l f).length ≤ 21 ∧ ∀ z ∈ oneW n l f, 0 ≤ z ∧ z < 10 := by
  unfold oneW
  rcases (Bool.eq_false_or_eq_true (oneTh n l f)).symm with q | q
  · rw [if_neg (by rw [q]; decide)]
    exact ⟨by simp, fun z hz => by cases hz⟩
  · rw [if_pos q]
    obtain ⟨hL, hin, h1⟩ := oneTh_t q
    obtain ⟨v, hv, he, hg, _⟩ := start_go hin h1
    have := hL.l20
    have := hL.n10
    have := hL.n1
    rw [he, Int.toNat_natCast]
    refine ⟨by rw [List.length_cons, walkL_len]; omega, fun z hz => ?_⟩
    rcases List.mem_cons.1 hz with rfl | hz
    · omega
    · have := walkL_mem l f v hin hv hg z hz; omega
end Go.Proofs.Ytkgabnhfjmldbaa
