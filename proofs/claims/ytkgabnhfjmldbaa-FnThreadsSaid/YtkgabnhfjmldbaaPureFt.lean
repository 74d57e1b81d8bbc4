/- Plain facts for the law of threads. No program in sight. -/
import Derived.Test.YtkgabnhfjmldbaaPureGo
namespace Go.Proofs.Ytkgabnhfjmldbaa
open Eu
/-- the ends of the first l lines at the points below k that lie in part h -/
def pdeg (f : Nat → Nat → Int) (L h l : Nat) : Nat → Nat
  | 0 => 0
  | k + 1 => pdeg f L h l k + (if part_ f L k = h then degTo f k l else 0)
/-- the lines among the first k that lie in part h -/
def linIn (f : Nat → Nat → Int) (L h : Nat) : Nat → Nat
  | 0 => 0
  | k + 1 => linIn f L h k + (if part_ f L (lnU f k) = h then 1 else 0)
theorem pdeg_zero (f : Nat → Nat → Int) (L h k : Nat) : pdeg f L h 0 k = 0 := by
  induction k with
  | zero => rfl
  | succ k ih => simp only [pdeg, ih, degTo]; split <;> rfl
theorem pdeg_step (f : Nat → Nat → Int) (L h l k : Nat) (hu : 0 ≤ f l 0) (hv : 0 ≤ f l 1) :
    pdeg f L h (l + 1) k = pdeg f L h l k + (if lnU f l < k ∧ part_ f L (lnU f l) = h then 1 else 0) + (if lnV f l < k ∧ part_ f L (lnV f l) = h then 1 else 0) := by
  induction k with
  | zero => simp [pdeg]
  | succ k ih =>
    simp only [pdeg, ih]
    have e0 : (if lnU f l < k + 1 ∧ part_ f L (lnU f l) = h then 1 else 0) = (if lnU f l < k ∧ part_ f L (lnU f l) = h then 1 else 0) + (if part_ f L k = h then (if f l 0 = (k : Int) then 1 else 0) else 0) := by
      by_cases a : lnU f l = k
      · have b : f l 0 = (k : Int) := by unfold lnU at a; omega
        rw [if_pos b, a]
        by_cases c : part_ f L k = h
        · rw [if_pos ⟨by omega, c⟩, if_neg (by omega), if_pos c]
        · rw [if_neg (fun q => c q.2), if_neg (by omega), if_neg c]
      · have b : ¬ f l 0 = (k : Int) := by unfold lnU at a; omega
        rw [if_neg b]
        have e : (if part_ f L k = h then (0 : Nat) else 0) = 0 := by split <;> rfl
        rw [e, Nat.add_zero]
        by_cases c : lnU f l < k ∧ part_ f L (lnU f l) = h
        · rw [if_pos c, if_pos ⟨by omega, c.2⟩]
        · rw [if_neg c, if_neg (fun q => c ⟨by omega, q.2⟩)]
    have e1 : (if lnV f l < k + 1 ∧ part_ f L (lnV f l) = h then 1 else 0) = (if lnV f l < k ∧ part_ f L (lnV f l) = h then 1 else 0) + (if part_ f L k = h then (if f l 1 = (k : Int) then 1 else 0) else 0) := by
      by_cases a : lnV f l = k
      · have b : f l 1 = (k : Int) := by unfold lnV at a; omega
        rw [if_pos b, a]
        by_cases c : part_ f L k = h
        · rw [if_pos ⟨by omega, c⟩, if_neg (by omega), if_pos c]
        · rw [if_neg (fun q => c q.2), if_neg (by omega), if_neg c]
      · have b : ¬ f l 1 = (k : Int) := by unfold lnV at a; omega
        rw [if_neg b]
        have e : (if part_ f L k = h then (0 : Nat) else 0) = 0 := by split <;> rfl
        rw [e, Nat.add_zero]
        by_cases c : lnV f l < k ∧ part_ f L (lnV f l) = h
        · rw [if_pos c, if_pos ⟨by omega, c.2⟩]
        · rw [if_neg c, if_neg (fun q => c ⟨by omega, q.2⟩)]
    rw [e0, e1]
    simp only [degTo]
    by_cases c : part_ f L k = h
    · rw [if_pos c, if_pos c, if_pos c, if_pos c]; omega
    · rw [if_neg c, if_neg c, if_neg c, if_neg c]; omega
/-- within a part the ends are twice the lines -/
theorem pdeg_lin {N : Nat} {f : Nat → Nat → Int} {L : Nat} (hin : inN N f L) (h : Nat) : ∀ l, l ≤ L → pdeg f L h l N = 2 * linIn f L h l
  | 0, _ => pdeg_zero f L h N
  | l + 1, hl => by
    have ih := pdeg_lin hin h l (by omega)
    have hk := hin l (by omega)
    have he := part_edge (f := f) (l := L) (k := l) (by omega)
    rw [pdeg_step f L h l N hk.1 hk.2.2.1, ih]
    simp only [linIn]
    have a : lnU f l < N := by unfold lnU; omega
    have b : lnV f l < N := by unfold lnV; omega
    by_cases c : part_ f L (lnU f l) = h
    · rw [if_pos ⟨a, c⟩, if_pos ⟨b, by rw [← he]; exact c⟩, if_pos c]; omega
    · rw [if_neg (fun q => c q.2), if_neg (fun q => c (by rw [he]; exact q.2)), if_neg c]; omega
theorem odd_pdeg (f : Nat → Nat → Int) (l h k : Nat) : cnt (fun p => isOdd f l p && part_ f l p == h) k % 2 = pdeg f l h l k % 2 ∧ cnt (fun p => isOdd f l p && part_ f l p == h) k ≤ pdeg f l h l k := by
  induction k with
  | zero => exact ⟨rfl, Nat.le_refl _⟩
  | succ k ih =>
    simp only [cnt, pdeg]
    by_cases c : part_ f l k = h
    · rw [if_pos c]
      have c2 : (part_ f l k == h) = true := beq_iff_eq.2 c
      rcases (Bool.eq_false_or_eq_true (isOdd f l k)).symm with q | q
      · have q2 := q
        unfold isOdd at q2
        have := beq_eq_false_iff_ne.1 q2
        simp only [q, Bool.false_and, Bool.false_eq_true, if_false]
        omega
      · have q2 := q
        unfold isOdd at q2
        have := beq_iff_eq.1 q2
        simp only [q, c2, Bool.and_self, if_true]
        omega
    · have c2 : (part_ f l k == h) = false := beq_eq_false_iff_ne.2 c
      simp only [c2, if_neg c, Bool.and_false, Bool.false_eq_true, if_false]
      omega
theorem oddIn_lin {N : Nat} {f : Nat → Nat → Int} {l : Nat} (hin : inN N f l) (h : Nat) : oddIn N f l h % 2 = 0 ∧ oddIn N f l h ≤ 2 * linIn f l h l := by
  have a := odd_pdeg f l h N
  have b := pdeg_lin hin h l (Nat.le_refl _)
  unfold oddIn
  omega
theorem pdeg_ge {f : Nat → Nat → Int} {L h l k i : Nat} (hi : i < k) (hp : part_ f L i = h) : degTo f i l ≤ pdeg f L h l k := by
  induction k with
  | zero => omega
  | succ k ih =>
    simp only [pdeg]
    rcases (by omega : i < k ∨ i = k) with q | q
    · have := ih q; omega
    · subst q; rw [if_pos hp]; omega
theorem head_lin {N : Nat} {f : Nat → Nat → Int} {l h : Nat} (hin : inN N f l) (hN : h < N) (hh : isHead f l h = true) : max 1 (oddIn N f l h / 2) ≤ linIn f l h l := by
  unfold isHead at hh
  simp only [Bool.and_eq_true, decide_eq_true_eq, beq_iff_eq] at hh
  have a := oddIn_lin hin h
  have b := pdeg_lin hin h l (Nat.le_refl _)
  have c := pdeg_ge (f := f) (L := l) (h := h) (l := l) hN hh.2
  omega
def linSum (f : Nat → Nat → Int) (L m : Nat) : Nat → Nat
  | 0 => 0
  | k + 1 => linSum f L m k + linIn f L k m
theorem linSum_zero (f : Nat → Nat → Int) (L k : Nat) : linSum f L 0 k = 0 := by
  induction k with
  | zero => rfl
  | succ k ih => simp only [linSum, ih, linIn]
theorem linSum_step (f : Nat → Nat → Int) (L m k : Nat) : linSum f L (m + 1) k = linSum f L m k + (if part_ f L (lnU f m) < k then 1 else 0) := by
  induction k with
  | zero => simp [linSum]
  | succ k ih =>
    simp only [linSum, ih, linIn]
    by_cases a : part_ f L (lnU f m) = k
    · rw [if_neg (by omega), if_pos a, if_pos (by omega)]
      omega
    · rw [if_neg a]
      by_cases b : part_ f L (lnU f m) < k
      · rw [if_pos b, if_pos (by omega)]; omega
      · rw [if_neg b, if_neg (by omega)]; omega
theorem linSum_all {N : Nat} {f : Nat → Nat → Int} {L : Nat} (hin : inN N f L) : ∀ m, m ≤ L → linSum f L m N = m
  | 0, _ => linSum_zero f L N
  | m + 1, hm => by
    rw [linSum_step, linSum_all hin m (by omega), if_pos]
    have := part_le f L (lnU f m)
    have := hin m (by omega)
    unfold lnU at *
    omega
/-- no more threads than lines -/
theorem thr_le {N : Nat} {f : Nat → Nat → Int} {l : Nat} (hin : inN N f l) : thrTo N f l N ≤ l := by
  have key : ∀ k, k ≤ N → thrTo N f l k ≤ linSum f l l k := by
    intro k
    induction k with
    | zero => exact fun _ => Nat.le_refl _
    | succ k ih =>
      intro hk
      have := ih (by omega)
      simp only [thrTo, linSum]
      rcases (Bool.eq_false_or_eq_true (isHead f l k)).symm with q | q
      · rw [if_neg (by rw [q]; decide)]; omega
      · rw [if_pos q]
        have := head_lin hin (by omega) q
        omega
  have h1 := key N (Nat.le_refl _)
  rw [linSum_all hin l (Nat.le_refl _)] at h1
  exact h1
theorem cnt_split (p : Nat → Bool) (g : Nat → Nat) (K : Nat) : ∀ n, cnt (fun i => p i && decide (g i < K + 1)) n = cnt (fun i => p i && decide (g i < K)) n + cnt (fun i => p i && g i == K) n
  | 0 => rfl
  | n + 1 => by
    simp only [cnt]
    rw [cnt_split p g K n]
    rcases (Bool.eq_false_or_eq_true (p n)).symm with q | q
    · simp only [q, Bool.false_and, Bool.false_eq_true, if_false]; omega
    · simp only [q, Bool.true_and]
      by_cases a : g n = K
      · have b : (g n == K) = true := beq_iff_eq.2 a
        simp only [decide_eq_true (show g n < K + 1 by omega), decide_eq_false (show ¬ g n < K by omega), b, if_true, Bool.false_eq_true, if_false]; omega
      · have b : (g n == K) = false := beq_eq_false_iff_ne.2 a
        by_cases c : g n < K
        · simp only [b, decide_eq_true c, decide_eq_true (show g n < K + 1 by omega), if_true, Bool.false_eq_true, if_false]; omega
        · simp only [b, decide_eq_false c, decide_eq_false (show ¬ g n < K + 1 by omega), Bool.false_eq_true, if_false]; omega
/-- at least one thread for each two odd points -/
theorem odd_thr {N : Nat} {f : Nat → Nat → Int} {l : Nat} (hin : inN N f l) : cnt (isOdd f l) N ≤ 2 * thrTo N f l N := by
  have key : ∀ k, k ≤ N → cnt (fun i => isOdd f l i && decide (part_ f l i < k)) N ≤ 2 * thrTo N f l k := by
    intro k
    induction k with
    | zero =>
      intro _
      have h1 := cnt_mono (p := fun i => isOdd f l i && decide (part_ f l i < 0)) (q := fun _ => false) (n := N) fun i _ e => by
        simp at e
      have h0 : ∀ n, cnt (fun _ => false) n = 0 := by intro n; induction n with
        | zero => rfl
        | succ n ih => simp [cnt, ih]
      rw [h0] at h1
      omega
    | succ k ih =>
      intro hk
      have h1 := ih (by omega)
      rw [cnt_split]
      have h2 : cnt (fun i => isOdd f l i && part_ f l i == k) N = oddIn N f l k := rfl
      rw [h2]
      simp only [thrTo]
      have h3 := (oddIn_lin hin k).1
      rcases (Bool.eq_false_or_eq_true (isHead f l k)).symm with q | q
      · rw [if_neg (by rw [q]; decide)]
        have h4 : oddIn N f l k = 0 := by
          have h5 := cnt_mono (p := fun i => isOdd f l i && part_ f l i == k) (q := fun _ => false) (n := N) fun i _ e => by
            simp only [Bool.and_eq_true, beq_iff_eq] at e
            have := head_part hin (odd_deg e.1)
            rw [e.2, q] at this
            cases this
          have h0 : ∀ n, cnt (fun _ => false) n = 0 := by intro n; induction n with
            | zero => rfl
            | succ n ih => simp [cnt, ih]
          rw [h0] at h5
          unfold oddIn
          omega
        omega
      · rw [if_pos q]; omega
  have h1 := key N (Nat.le_refl _)
  have h2 : cnt (isOdd f l) N ≤ cnt (fun i => isOdd f l i && decide (part_ f l i < N)) N := cnt_mono fun i hi e => by
    have := part_le f l i
    rw [e, decide_eq_true (show part_ f l i < N by omega)]
    rfl
  omega
theorem thr_pos {N : Nat} {f : Nat → Nat → Int} {l : Nat} (hin : inN N f l) (h : 0 < l) : 0 < cnt (isHead f l) N ∧ 0 < thrTo N f l N := by
  have h0 := hin 0 h
  have hd : 0 < degTo f (lnU f 0) l := by
    have := deg_pos (L := edges f l) (x := f 0 0) (e := (f 0 0, f 0 1)) (edges_mem.2 ⟨0, h, rfl⟩) (Or.inl rfl)
    rw [show f 0 0 = ((lnU f 0 : Nat) : Int) by unfold lnU; omega, deg_edges] at this
    exact this
  have hp := part_le f l (lnU f 0)
  have h1 := cnt_pos (p := isHead f l) (n := N) (i := part_ f l (lnU f 0)) (by unfold lnU at *; omega) (head_part hin hd)
  have h2 := thr_heads N f l N
  omega
theorem thr_empty (N : Nat) (f : Nat → Nat → Int) : cnt (isHead f 0) N = 0 ∧ thrTo N f 0 N = 0 ∧ cnt (isOdd f 0) N = 0 := by
  have h0 : ∀ n, cnt (fun _ => false) n = 0 := by intro n; induction n with
    | zero => rfl
    | succ n ih => simp [cnt, ih]
  have a := cnt_mono (p := isHead f 0) (q := fun _ => false) (n := N) fun i _ e => by unfold isHead at e; simp [degTo] at e
  have b := cnt_mono (p := isOdd f 0) (q := fun _ => false) (n := N) fun i _ e => by unfold isOdd at e; simp [degTo] at e
  rw [h0] at a b
  exact ⟨by omega, thr_none N f 0 N (by omega), by omega⟩
/-- lines that hang together -/
theorem thr_joined {N : Nat} {f : Nat → Nat → Int} {l : Nat} (hin : inN N f l) (h : cnt (isHead f l) N = 1) : thrTo N f l N = max 1 (cnt (isOdd f l) N / 2) := by
  obtain ⟨p, hp, h3, h4⟩ := heads_all hin h
  have h5 : ∀ i, i < N → isHead f l i = true → i = p := fun i hi e => by
    have e2 := e
    unfold isHead at e2
    simp only [Bool.and_eq_true, decide_eq_true_eq, beq_iff_eq] at e2
    rw [← e2.2]
    exact h4 i hi e2.1
  rw [thr_one N hp h3 h5]
  have h6 : cnt (isOdd f l) N ≤ oddIn N f l p := cnt_mono fun i hi e => by
    rw [e, h4 i hi (odd_deg e)]
    simp
  have h7 : oddIn N f l p ≤ cnt (isOdd f l) N := cnt_mono fun i _ e => (Bool.and_eq_true_iff.1 e).1
  rw [show oddIn N f l p = cnt (isOdd f l) N by omega]
/-- where a walk ends -/
def lastOf (z : Int) : List Int → Int
  | [] => z
  | y :: zs => lastOf y zs
theorem nth_lastOf (z : Int) (zs : List Int) : nth (z :: zs) zs.length = lastOf z zs := by
  induction zs generalizing z with
  | nil => rfl
  | cons y zs ih =>
    show nth (z :: y :: zs) (zs.length + 1) = lastOf y zs
    rw [← ih y]
    rfl
theorem walkL_trail {N : Nat} : ∀ (l : Nat) (f : Nat → Nat → Int) (v : Nat), inN N f l → v < N → canGo N f l v = true → Trail l (edges f l) v (lastOf v (walkL N l f v))
  | 0, f, v, _, _, _ => ⟨rfl, rfl⟩
  | l + 1, f, v, hin, hv, hg => by
    obtain ⟨t, k, hb, ht, hk, hN⟩ := best_next hin hv (by omega) hg
    have ih := walkL_trail l (rem f k) t (inN_rem hin hk) ht (next_go hN)
    rw [walkL_next hb (by omega)]
    have ho := other_in hin hk (by rw [hN.to_]; omega)
    rw [hN.to_] at ho
    exact ⟨(f k 0, f k 1), edges (rem f k) l, t, edges_rem hk, ho.2, ih⟩
/-- the two odd points are the two ends of the walk; without odd points it is closed -/
theorem walk_ends {N : Nat} {f : Nat → Nat → Int} {l : Nat} (hin : inN N f l) (h : thrTo N f l N = 1) :
    ∃ v : Nat, v < N ∧ start N f l = (v : Int) ∧ Trail l (edges f l) v (lastOf v (walkL N l f v)) ∧
      (cnt (isOdd f l) N = 0 → lastOf v (walkL N l f v) = v) ∧
      (cnt (isOdd f l) N = 2 → nth (odds N f l) 0 = (v : Int) ∧ nth (odds N f l) 1 = lastOf v (walkL N l f v) ∧ lastOf v (walkL N l f v) ≠ (v : Int)) ∧ 0 ≤ lastOf v (walkL N l f v) ∧ lastOf v (walkL N l f v) < N := by
  obtain ⟨v, hv, hst, hg, hd, _⟩ := start_go hin h
  have ht := walkL_trail l f v hin hv hg
  obtain ⟨z, hz⟩ : ∃ z, z = lastOf v (walkL N l f v) := ⟨_, rfl⟩
  refine ⟨v, hv, hst, ?_⟩
  rw [← hz] at ht ⊢
  have hzN : 0 ≤ z ∧ z < N := by
    rcases Classical.em (0 ≤ z ∧ z < N) with q | q
    · exact q
    · exfalso
      have h1 := ht.par z
      rw [deg_out hin (by omega), if_neg (by omega), if_pos rfl] at h1
      omega
  have hoff : isOdd f l v = true → z ≠ (v : Int) := by
    intro ho e
    have h1 := ht.par v
    rw [deg_edges, if_pos rfl, if_pos e.symm] at h1
    unfold isOdd at ho
    have := beq_iff_eq.1 ho
    omega
  have hodd : ∀ x : Nat, isOdd f l x = true → (x : Int) = v ∨ (x : Int) = z := by
    intro x ho
    have h1 := ht.par x
    rw [deg_edges] at h1
    unfold isOdd at ho
    have := beq_iff_eq.1 ho
    by_cases a : (x : Int) = v
    · exact .inl a
    · rw [if_neg a] at h1
      by_cases b : (x : Int) = z
      · exact .inr b
      · rw [if_neg b] at h1; omega
  refine ⟨ht, fun h0 => ?_, fun h2 => ?_, hzN.1, hzN.2⟩
  · have a := cnt_zero h0 v hv
    unfold isOdd at a
    have a2 := beq_eq_false_iff_ne.1 a
    have h1 := ht.par v
    rw [deg_edges, if_pos rfl] at h1
    by_cases e : (v : Int) = z
    · exact e.symm
    · rw [if_neg e] at h1; omega
  · have hs : nth (odds N f l) 0 = (v : Int) := by rw [← hst]; unfold start; rw [if_pos (by omega)]
    have hl : (odds N f l).length = 2 := by unfold odds; rw [membs_cnt]; exact h2
    match hm : odds N f l, hl with
    | [a, b], _ =>
      have ma : a ∈ odds N f l := by rw [hm]; simp
      have mb : b ∈ odds N f l := by rw [hm]; simp
      obtain ⟨va, hva, hoa, ea⟩ := membs_lt.1 ma
      obtain ⟨vb, hvb, hob, eb⟩ := membs_lt.1 mb
      have hav : a = (v : Int) := by rw [hm] at hs; exact hs
      have hnd : a ≠ b := by
        intro e
        have hnd : (odds N f l).Nodup := by
          unfold odds membs
          exact List.Pairwise.map _ (fun x y h q => h (Int.ofNat.inj q)) (List.Pairwise.filter _ List.nodup_range)
        rw [hm, e] at hnd
        simp at hnd
      have hbz : b = z := by
        rcases hodd vb hob with q | q
        · exfalso; apply hnd; rw [hav, eb, q]
        · rw [eb, q]
      have hvo : isOdd f l v = true := by
        have : va = v := by omega
        rw [← this]; exact hoa
      exact ⟨hav, hbz, hoff hvo⟩
/-- one more line between the two odd points closes the walk -/
theorem closed_more {N : Nat} {f g : Nat → Nat → Int} {l : Nat} {a b : Int} (hin : inN N f l) (ht : Trail l (edges f l) a b) (ha : 0 ≤ a ∧ a < N) (hb : 0 ≤ b ∧ b < N) (hab : a ≠ b)
    (hg : ∀ i, i < l → g i 0 = f i 0 ∧ g i 1 = f i 1) (h0 : g l 0 = a) (h1 : g l 1 = b) : inN N g (l + 1) ∧ thrTo N g (l + 1) N = 1 ∧ cnt (isOdd g (l + 1)) N = 0 := by
  have hin2 : inN N g (l + 1) := by
    intro k hk
    rcases (by omega : k < l ∨ k = l) with q | q
    · have := hg k q
      rw [this.1, this.2]
      exact hin k q
    · subst q
      rw [h0, h1]
      exact ⟨ha.1, ha.2, hb.1, hb.2, hab⟩
  have he : edges g (l + 1) = edges f l ++ [(a, b)] := by
    rw [edges_succ, h0, h1]
    congr 1
    unfold edges
    apply List.map_congr_left
    intro k hk
    have := hg k (List.mem_range.1 hk)
    rw [this.1, this.2]
  have ht2 : Trail (l + 1) (edges g (l + 1)) a a := by
    rw [he]
    exact ht.append (show Trail 1 [(a, b)] b a from ⟨(a, b), [], a, List.Perm.refl _, Or.inr rfl, rfl, rfl⟩)
  obtain ⟨va, rfl⟩ : ∃ va : Nat, a = va := ⟨a.toNat, by omega⟩
  have hc := goes_canGo hin2 (show va < N by omega) ht2.goes
  have hodd : cnt (isOdd g (l + 1)) N = 0 := by
    have h2 := cnt_mono (p := isOdd g (l + 1)) (q := fun _ => false) (n := N) fun i _ e => by
      exfalso
      have h3 := ht2.par i
      rw [deg_edges] at h3
      unfold isOdd at e
      have := beq_iff_eq.1 e
      split at h3 <;> omega
    have h0 : ∀ n, cnt (fun _ => false) n = 0 := by intro n; induction n with
      | zero => rfl
      | succ n ih => simp [cnt, ih]
    rw [h0] at h2
    omega
  refine ⟨hin2, ?_, hodd⟩
  have hd : 0 < degTo g va (l + 1) := by
    have := deg_pos (L := edges g (l + 1)) (x := (va : Int)) (e := ((va : Int), b)) (by rw [he]; simp) (Or.inl rfl)
    rw [deg_edges] at this
    exact this
  have hh : cnt (isHead g (l + 1)) N = 1 := by
    have e0 : (l + 1 == 0) = false := by simp
    unfold canGo at hc
    rw [e0, Bool.false_or, ← heads_one hin2 (show va < N by omega) hd] at hc
    simp only [Bool.and_eq_true, beq_iff_eq] at hc
    exact hc.1.2
  rw [thr_joined hin2 hh, hodd]
  rfl
/-- a line without its direction -/
def nm (e : Int × Int) : Int × Int := (min e.1 e.2, max e.1 e.2)
def steps : List Int → List (Int × Int)
  | a :: b :: r => (a, b) :: steps (b :: r)
  | _ => []
/-- the steps of zs are the lines, each once -/
def Walks (l : Nat) (f : Nat → Nat → Int) (zs : List Int) : Prop := ((edges f l).map nm).Perm ((steps zs).map nm)
theorem nm_joins {e : Int × Int} {v t : Int} (h : joins e v t) : nm e = nm (v, t) := by
  rcases h with rfl | rfl
  · rfl
  · unfold nm; simp only [Prod.mk.injEq]; omega
theorem nm_eq {e : Int × Int} {v t : Int} (h : nm e = nm (v, t)) : (e.1 = v ∧ e.2 = t) ∨ (e.1 = t ∧ e.2 = v) := by
  unfold nm at h
  simp only [Prod.mk.injEq] at h
  omega
theorem walkL_walks {N : Nat} : ∀ (l : Nat) (f : Nat → Nat → Int) (v : Nat), inN N f l → v < N → canGo N f l v = true → Walks l f (v :: walkL N l f v)
  | 0, f, v, _, _, _ => List.Perm.refl _
  | l + 1, f, v, hin, hv, hg => by
    obtain ⟨t, k, hb, ht, hk, hN⟩ := best_next hin hv (by omega) hg
    have ih := walkL_walks l (rem f k) t (inN_rem hin hk) ht (next_go hN)
    rw [walkL_next hb (by omega)]
    have ho := other_in hin hk (by rw [hN.to_]; omega)
    rw [hN.to_] at ho
    unfold Walks at ih ⊢
    refine ((edges_rem hk).map nm).trans ?_
    simp only [List.map_cons, steps]
    rw [nm_joins ho.2]
    exact List.Perm.cons _ ih
def matchA (q : Nat → Int) (a b : Int) : Bool := (q 0 == a && q 1 == b) || (q 0 == b && q 1 == a)
def lastM (f : Nat → Nat → Int) (a b : Int) : Nat → Int
  | 0 => -1
  | j + 1 => if matchA (f j) a b then (j : Int) else lastM f a b j
theorem lastM_bd (f : Nat → Nat → Int) (a b : Int) (j : Nat) : -1 ≤ lastM f a b j ∧ lastM f a b j < j ∧ (0 ≤ lastM f a b j → ∃ k : Nat, lastM f a b j = k ∧ k < j ∧ matchA (f k) a b = true) := by
  induction j with
  | zero => exact ⟨Int.le_refl _, by simp [lastM], fun h => by simp [lastM] at h⟩
  | succ j ih =>
    simp only [lastM]
    rcases (Bool.eq_false_or_eq_true (matchA (f j) a b)).symm with q | q
    · rw [if_neg (by rw [q]; decide)]
      refine ⟨ih.1, by omega, fun h => ?_⟩
      obtain ⟨k, e, h1, h2⟩ := ih.2.2 h
      exact ⟨k, e, by omega, h2⟩
    · rw [if_pos q]
      exact ⟨by omega, by omega, fun _ => ⟨j, rfl, by omega, q⟩⟩
theorem lastM_some {f : Nat → Nat → Int} {a b : Int} : ∀ {l j : Nat}, j < l → matchA (f j) a b = true → 0 ≤ lastM f a b l
  | 0, j, h, _ => by omega
  | l + 1, j, h, hm => by
    simp only [lastM]
    split
    · omega
    · rename_i q
      rcases (by omega : j < l ∨ j = l) with r | r
      · exact lastM_some r hm
      · subst r; exact absurd hm q
/-- the next step has its line, and without it the rest is walked -/
theorem walks_step {l : Nat} {f : Nat → Nat → Int} {a b : Int} {r : List Int} (h : Walks l f (a :: b :: r)) : ∃ k : Nat, lastM f a b l = k ∧ k < l ∧ Walks (l - 1) (rem f k) (b :: r) := by
  have hm : nm (a, b) ∈ (edges f l).map nm := by
    unfold Walks at h
    exact h.symm.subset (by simp [steps])
  obtain ⟨e, he, hn⟩ := List.mem_map.1 hm
  obtain ⟨j, hj, rfl⟩ := edges_mem.1 he
  have hmj : matchA (f j) a b = true := by
    unfold matchA
    rcases nm_eq hn with ⟨q, r⟩ | ⟨q, r⟩
    · simp only at q r; rw [q, r]; simp
    · simp only at q r; rw [q, r]; simp
  obtain ⟨_, _, h3⟩ := lastM_bd f a b l
  obtain ⟨k, ek, hk, hmk⟩ := h3 (lastM_some hj hmj)
  refine ⟨k, ek, hk, ?_⟩
  have hnk : nm (f k 0, f k 1) = nm (a, b) := by
    unfold matchA at hmk
    simp only [Bool.or_eq_true, Bool.and_eq_true, beq_iff_eq] at hmk
    rcases hmk with ⟨q, r⟩ | ⟨q, r⟩
    · rw [q, r]
    · rw [q, r]; unfold nm; simp only [Prod.mk.injEq]; omega
  unfold Walks at h ⊢
  have h1 := ((edges_rem hk).map nm).symm.trans h
  simp only [List.map_cons, steps] at h1
  rw [hnk] at h1
  exact List.Perm.cons_inv h1
end Go.Proofs.Ytkgabnhfjmldbaa
