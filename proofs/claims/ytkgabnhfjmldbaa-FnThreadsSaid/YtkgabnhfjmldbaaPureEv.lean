/- Plain functions: which line a walk may take next, and that there is one wherever Euler's condition holds. No program in sight. -/
import Derived.Test.YtkgabnhfjmldbaaPureTh
import Derived.Test.YtkgabnhfjmldbaaPureEu
namespace Go.Proofs.Ytkgabnhfjmldbaa
open Eu
def edges (f : Nat → Nat → Int) (l : Nat) : List (Int × Int) := (List.range l).map fun k => (f k 0, f k 1)
/-- the lines without line i -/
def rem (f : Nat → Nat → Int) (i : Nat) : Nat → Nat → Int := fun k => if k < i then f k else f (k + 1)
theorem edges_len (f : Nat → Nat → Int) (l : Nat) : (edges f l).length = l := by simp [edges]
theorem edges_succ (f : Nat → Nat → Int) (l : Nat) : edges f (l + 1) = edges f l ++ [(f l 0, f l 1)] := by simp [edges, List.range_succ]
theorem edges_mem {f : Nat → Nat → Int} {l : Nat} {e : Int × Int} : e ∈ edges f l ↔ ∃ k, k < l ∧ e = (f k 0, f k 1) := by
  simp only [edges, List.mem_map, List.mem_range]
  constructor
  · rintro ⟨k, h, e⟩; exact ⟨k, h, e.symm⟩
  · rintro ⟨k, h, e⟩; exact ⟨k, h, e.symm⟩
theorem edges_rem {f : Nat → Nat → Int} {l i : Nat} (h : i < l) : (edges f l).Perm ((f i 0, f i 1) :: edges (rem f i) (l - 1)) := by
  induction l with
  | zero => omega
  | succ l ih =>
    rw [edges_succ, Nat.add_sub_cancel]
    rcases (by omega : i < l ∨ i = l) with q | q
    · have h1 := ih q
      obtain ⟨m, rfl⟩ : ∃ m, l = m + 1 := ⟨l - 1, by omega⟩
      rw [Nat.add_sub_cancel] at h1
      have h2 : edges (rem f i) (m + 1) = edges (rem f i) m ++ [(f (m + 1) 0, f (m + 1) 1)] := by
        rw [edges_succ]
        unfold rem
        rw [if_neg (by omega)]
      rw [h2]
      exact h1.append_right _
    · subst q
      have h2 : edges (rem f i) i = edges f i := by
        unfold edges
        apply List.map_congr_left
        intro k hk
        unfold rem
        rw [if_pos (List.mem_range.1 hk)]
      rw [h2]
      exact List.perm_append_comm
theorem deg_edges (f : Nat → Nat → Int) (l p : Nat) : deg (edges f l) (p : Int) = degTo f p l := by
  induction l with
  | zero => rfl
  | succ l ih =>
    rw [edges_succ, deg_append, ih]
    simp only [deg, degTo]
    omega
def canGo (N : Nat) (f : Nat → Nat → Int) (l v : Nat) : Bool :=
  l == 0 || (decide (0 < degTo f v l) && allTo (fun i => degTo f i l == 0 || part_ f l i == part_ f l v) N && (cnt (isOdd f l) N == 0 || (cnt (isOdd f l) N == 2 && isOdd f l v)))
def inN (N : Nat) (f : Nat → Nat → Int) (l : Nat) : Prop := ∀ k, k < l → 0 ≤ f k 0 ∧ f k 0 < N ∧ 0 ≤ f k 1 ∧ f k 1 < N ∧ f k 0 ≠ f k 1
theorem inN_rem {N : Nat} {f : Nat → Nat → Int} {l i : Nat} (h : inN N f l) (hi : i < l) : inN N (rem f i) (l - 1) := by
  intro k hk
  unfold rem
  split
  · exact h k (by omega)
  · exact h (k + 1) (by omega)
theorem part_edge {f : Nat → Nat → Int} {l k : Nat} (h : k < l) : part_ f l (lnU f k) = part_ f l (lnV f k) := mergeTo_edge l k h
theorem touch_deg {f : Nat → Nat → Int} {l p : Nat} (h : 0 < degTo f p l) : ∃ e ∈ edges f l, touches e (p : Int) := by
  rcases Classical.em (∃ e ∈ edges f l, touches e (p : Int)) with q | q
  · exact q
  · have := deg_zero (L := edges f l) (x := (p : Int)) fun e he ht => q ⟨e, he, ht⟩
    rw [deg_edges] at this
    omega
theorem cnt_zero {p : Nat → Bool} {N : Nat} (h : cnt p N = 0) : ∀ i, i < N → p i = false := by
  intro i hi
  rcases Bool.eq_false_or_eq_true (p i) with q | q
  · have := cnt_pos hi q; omega
  · exact q
/-- without one of its points a count is one less -/
theorem cnt_without {p : Nat → Bool} {N v : Nat} (hv : v < N) (hp : p v = true) : cnt p N = cnt (fun x => p x && !(x == v)) N + 1 := by
  induction N with
  | zero => omega
  | succ N ih =>
    simp only [cnt]
    rcases (by omega : v < N ∨ v = N) with q | q
    · have e : (N == v) = false := by simp; omega
      rw [ih q]
      simp only [e, Bool.not_false, Bool.and_true]
      omega
    · subst q
      have e : cnt (fun x => p x && !(x == v)) v = cnt p v := by
        apply Nat.le_antisymm
        · exact cnt_mono fun i _ h => (Bool.and_eq_true_iff.1 h).1
        · exact cnt_mono fun i hi h => by
            have : (i == v) = false := by simp; omega
            simp only [h, this]; rfl
      rw [e]
      simp [hp]
theorem cnt_one {p : Nat → Bool} {N : Nat} (h : cnt p N = 1) : ∃ v, v < N ∧ p v = true ∧ ∀ x, x < N → p x = true → x = v := by
  have hex : ∃ v, v < N ∧ p v = true := by
    rcases Classical.em (∃ v, v < N ∧ p v = true) with q | q
    · exact q
    · exfalso
      have : cnt p N ≤ cnt (fun _ => false) N := cnt_mono fun i hi hp => absurd ⟨i, hi, hp⟩ q
      have h0 : ∀ n, cnt (fun _ => false) n = 0 := by intro n; induction n with
        | zero => rfl
        | succ n ih => simp [cnt, ih]
      rw [h0] at this
      omega
  obtain ⟨v, hv, hp⟩ := hex
  refine ⟨v, hv, hp, fun x hx hpx => ?_⟩
  rw [cnt_without hv hp] at h
  have h0 := cnt_zero (p := fun x => p x && !(x == v)) (N := N) (by omega) x hx
  simp only [hpx, Bool.true_and, Bool.not_eq_false', beq_iff_eq] at h0
  exact h0
theorem deg_out {N : Nat} {f : Nat → Nat → Int} {l : Nat} (h : inN N f l) {x : Int} (hx : x < 0 ∨ (N : Int) ≤ x) : deg (edges f l) x = 0 := by
  apply deg_zero
  intro e he ht
  obtain ⟨k, hk, rfl⟩ := edges_mem.1 he
  have := h k hk
  rcases ht with q | q <;> simp only at q <;> omega
theorem canGo_goes {N : Nat} {f : Nat → Nat → Int} {l v : Nat} (hin : inN N f l) (hv : v < N) (h : canGo N f l v = true) : ∃ w : Int, Goes (edges f l) v w := by
  unfold canGo at h
  rcases (by omega : l = 0 ∨ 0 < l) with hl | hl
  · subst hl
    refine ⟨v, fun S _ h => ?_, fun h => absurd rfl h, fun x => ?_⟩
    · obtain ⟨e, he, _⟩ := h; cases he
    · show 0 % 2 = _; split <;> rfl
  · have e0 : (l == 0) = false := by simp; omega
    rw [e0, Bool.false_or] at h
    simp only [Bool.and_eq_true, Bool.or_eq_true, beq_iff_eq, decide_eq_true_eq] at h
    obtain ⟨⟨hd, hs⟩, ho⟩ := h
    have hs := fun i hi => allTo_iff.1 hs i hi
    have hc : conn (edges f l) := by
      intro S h1 ⟨d, hd1, hd2⟩ e he
      have key : ∀ k, k < l → part_ f l (lnU f k) = part_ f l v := by
        intro k hk
        have hk2 := hin k hk
        have := hs (lnU f k) (by unfold lnU; omega)
        simp only [Bool.or_eq_true, beq_iff_eq] at this
        rcases this with q | q
        · exfalso
          have h3 := deg_pos (L := edges f l) (x := f k 0) (e := (f k 0, f k 1)) (edges_mem.2 ⟨k, hk, rfl⟩) (Or.inl rfl)
          rw [show f k 0 = ((lnU f k : Nat) : Int) by unfold lnU; omega, deg_edges] at h3
          omega
        · exact q
      have hF : ∀ i, (open Classical in if S ((part_ f l i : Nat) : Int) then 1 else 0) = (open Classical in if S ((i : Nat) : Int) then 1 else 0) := by
        intro i
        refine mergeTo_const (u := lnU f) (v := lnV f) (F := fun x => open Classical in if S ((x : Nat) : Int) then 1 else 0) l (fun j hj => ?_) i
        have hj2 := hin j hj
        have := h1 (f j 0, f j 1) (edges_mem.2 ⟨j, hj, rfl⟩)
        simp only at this
        have a1 : ((lnU f j : Nat) : Int) = f j 0 := by unfold lnU; omega
        have a2 : ((lnV f j : Nat) : Int) = f j 1 := by unfold lnV; omega
        show (open Classical in if S ((lnU f j : Nat) : Int) then 1 else 0) = (open Classical in if S ((lnV f j : Nat) : Int) then 1 else 0)
        by_cases q : S (f j 0)
        · rw [if_pos (by rw [a1]; exact q), if_pos (by rw [a2]; exact this.1 q)]
        · rw [if_neg (by rw [a1]; exact q), if_neg (by rw [a2]; exact fun h => q (this.2 h))]
      obtain ⟨a, ha, rfl⟩ := edges_mem.1 hd1
      obtain ⟨b, hb, rfl⟩ := edges_mem.1 he
      have ea := hF (lnU f a)
      have eb := hF (lnU f b)
      rw [key a ha] at ea
      rw [key b hb] at eb
      have ha2 := hin a ha
      have hb2 := hin b hb
      have a1 : ((lnU f a : Nat) : Int) = f a 0 := by unfold lnU; omega
      have b1 : ((lnU f b : Nat) : Int) = f b 0 := by unfold lnU; omega
      rw [a1] at ea
      rw [b1] at eb
      simp only at hd2 ⊢
      rw [if_pos hd2] at ea
      rw [ea] at eb
      rcases Classical.em (S (f b 0)) with q | q
      · exact q
      · rw [if_neg q] at eb; cases eb
    have ht : edges f l ≠ [] → ∃ e ∈ edges f l, touches e (v : Int) := fun _ => touch_deg hd
    rcases ho with ho | ⟨ho, hov⟩
    · refine ⟨v, hc, ht, fun x => ?_⟩
      rcases Classical.em (0 ≤ x ∧ x < N) with q | q
      · have h0 := cnt_zero ho x.toNat (by omega)
        unfold isOdd at h0
        have h1 := beq_eq_false_iff_ne.1 h0
        rw [show x = ((x.toNat : Nat) : Int) by omega, deg_edges]
        split <;> omega
      · rw [deg_out hin (by omega)]; split <;> rfl
    · rw [cnt_without hv hov] at ho
      obtain ⟨u, hu, hpu, hun⟩ := cnt_one (p := fun x => isOdd f l x && !(x == v)) (N := N) (by omega)
      simp only [Bool.and_eq_true, Bool.not_eq_true', beq_eq_false_iff_ne] at hpu
      refine ⟨u, hc, ht, fun x => ?_⟩
      rcases Classical.em (0 ≤ x ∧ x < N) with q | q
      · rw [show x = ((x.toNat : Nat) : Int) by omega, deg_edges]
        rcases Bool.eq_false_or_eq_true (isOdd f l x.toNat) with o | o
        · have o2 := o
          unfold isOdd at o2
          rw [beq_iff_eq] at o2
          rw [o2]
          by_cases e1 : x.toNat = v
          · rw [if_pos (by omega), if_neg (by have := hpu.2; omega)]
          · have := hun x.toNat (by omega) (by simp [o, e1])
            rw [if_neg (by omega), if_pos (by omega)]
        · have o2 := o
          unfold isOdd at o2
          have o3 := beq_eq_false_iff_ne.1 o2
          have e1 : x.toNat ≠ v := by intro e; rw [e, hov] at o; cases o
          have e2 : x.toNat ≠ u := by intro e; rw [e, hpu.1] at o; cases o
          rw [if_neg (by omega), if_neg (by omega)]
          omega
      · rw [deg_out hin (by omega), if_neg (by omega), if_neg (by omega)]
theorem goes_canGo {N : Nat} {f : Nat → Nat → Int} {l v : Nat} {w : Int} (hin : inN N f l) (hv : v < N) (h : Goes (edges f l) v w) : canGo N f l v = true := by
  unfold canGo
  rcases (by omega : l = 0 ∨ 0 < l) with hl | hl
  · subst hl; rfl
  · have hne : edges f l ≠ [] := by intro e; have := congrArg List.length e; rw [edges_len] at this; simp at this; omega
    obtain ⟨e, he, ht⟩ := h.touch hne
    have hd : 0 < degTo f v l := by rw [← deg_edges]; exact deg_pos he ht
    have hs : allTo (fun i => degTo f i l == 0 || part_ f l i == part_ f l v) N = true := by
      rw [allTo_iff]
      intro i hi
      rcases (by omega : degTo f i l = 0 ∨ 0 < degTo f i l) with q | q
      · simp [q]
      · obtain ⟨d, hdm, hdt⟩ := touch_deg q
        have hcl : ∀ e ∈ edges f l, (part_ f l e.1.toNat = part_ f l v ↔ part_ f l e.2.toNat = part_ f l v) := by
          intro e he
          obtain ⟨k, hk, rfl⟩ := edges_mem.1 he
          have := part_edge (f := f) hk
          unfold lnU lnV at this
          simp only
          rw [this]
        have hto : ∀ e ∈ edges f l, ∀ x : Int, touches e x → (part_ f l x.toNat = part_ f l v ↔ part_ f l e.1.toNat = part_ f l v) := by
          intro e he x hx
          rcases hx with a | a
          · rw [← a]
          · rw [← a]; exact (hcl e he).symm
        have h1 : part_ f l e.1.toNat = part_ f l v := (hto e he v ht).1 (by rw [Int.toNat_natCast])
        have h2 := h.conn (fun x => part_ f l x.toNat = part_ f l v) hcl ⟨e, he, h1⟩ d hdm
        have h3 := (hto d hdm i hdt).2 h2
        rw [Int.toNat_natCast] at h3
        simp [h3]
    have ho : (cnt (isOdd f l) N == 0 || (cnt (isOdd f l) N == 2 && isOdd f l v)) = true := by
      by_cases hvw : (v : Int) = w
      · have : cnt (isOdd f l) N = 0 := by
          have hall : ∀ i, i < N → isOdd f l i = false := by
            intro i _
            have := h.par i
            rw [deg_edges, ← hvw] at this
            unfold isOdd
            rw [beq_eq_false_iff_ne]
            split at this <;> omega
          have h1 := cnt_mono (p := isOdd f l) (q := fun _ => false) (n := N) fun i hi e => by rw [hall i hi] at e; cases e
          have h0 : ∀ n, cnt (fun _ => false) n = 0 := by intro n; induction n with
            | zero => rfl
            | succ n ih => simp [cnt, ih]
          rw [h0] at h1
          omega
        simp [this]
      · have hov : isOdd f l v = true := by
          have := h.par v
          rw [deg_edges, if_pos rfl, if_neg hvw] at this
          unfold isOdd
          rw [beq_iff_eq]; omega
        have hw : 0 ≤ w ∧ w < N := by
          rcases Classical.em (0 ≤ w ∧ w < N) with q | q
          · exact q
          · have := h.par w
            rw [deg_out hin (by omega), if_pos rfl, if_neg (by omega)] at this
            omega
        have how : isOdd f l w.toNat = true := by
          have := h.par w
          rw [show w = ((w.toNat : Nat) : Int) by omega, deg_edges, if_neg (by omega), if_pos rfl] at this
          unfold isOdd
          rw [beq_iff_eq]; omega
        have h1 : cnt (isOdd f l) N = 2 := by
          rw [cnt_without hv hov]
          have hw2 : (fun x => isOdd f l x && !(x == v)) w.toNat = true := by
            have : (w.toNat == v) = false := by simp; omega
            simp only [how, this]; rfl
          rw [cnt_without (p := fun x => isOdd f l x && !(x == v)) (v := w.toNat) (by omega) hw2]
          have h1 := cnt_mono (p := fun x => (isOdd f l x && !(x == v)) && !(x == w.toNat)) (q := fun _ => false) (n := N) fun i hi e => by
            simp only [Bool.and_eq_true, Bool.not_eq_true', beq_eq_false_iff_ne] at e
            have := h.par i
            rw [deg_edges, if_neg (by omega), if_neg (by omega)] at this
            have h5 := e.1.1
            unfold isOdd at h5
            rw [beq_iff_eq] at h5
            omega
          have h0 : ∀ n, cnt (fun _ => false) n = 0 := by intro n; induction n with
            | zero => rfl
            | succ n ih => simp [cnt, ih]
          rw [h0] at h1
          omega
        simp [h1, hov]
    have e0 : (l == 0) = false := by simp; omega
    rw [e0, hs, ho, decide_eq_true hd]
    rfl
/-- the other end of a line, -1 where the line does not end at 'now' -/
def other (q : Nat → Int) (now : Int) : Int := if q 0 = now then q 1 else if q 1 = now then q 0 else -1
/-- can line i be walked next? -/
def okAt (N : Nat) (f : Nat → Nat → Int) (l : Nat) (now : Nat) (i : Nat) : Bool := decide (0 ≤ other (f i) now) && canGo N (rem f i) (l - 1) (other (f i) now).toNat
theorem other_in {N : Nat} {f : Nat → Nat → Int} {l now i : Nat} (hin : inN N f l) (hi : i < l) (h : 0 ≤ other (f i) now) : other (f i) now < N ∧ joins (f i 0, f i 1) now (other (f i) now) := by
  have := hin i hi
  unfold other at h ⊢
  split
  · rename_i q
    exact ⟨by omega, Or.inl (by rw [q])⟩
  · split
    · rename_i q
      exact ⟨by omega, Or.inr (by rw [q])⟩
    · rename_i q1 q2
      rw [if_neg q1, if_neg q2] at h
      omega
theorem some_ok {N : Nat} {f : Nat → Nat → Int} {l now : Nat} (hin : inN N f l) (hn : now < N) (hl : 0 < l) (h : canGo N f l now = true) : ∃ i, i < l ∧ okAt N f l now i = true := by
  obtain ⟨w, hg⟩ := canGo_goes hin hn h
  have hne : edges f l ≠ [] := by intro e; have := congrArg List.length e; rw [edges_len] at this; simp at this; omega
  obtain ⟨e, M, t, p, j, g⟩ := hg.step hne
  have he : e ∈ edges f l := p.symm.subset (by simp)
  obtain ⟨i, hi, rfl⟩ := edges_mem.1 he
  have hp := (edges_rem hi).symm.trans p
  have hM := hp.cons_inv
  have hii := hin i hi
  have ht : other (f i) now = t := by
    unfold other
    rcases j with j | j
    · have j1 := congrArg Prod.fst j
      have j2 := congrArg Prod.snd j
      simp only at j1 j2
      rw [if_pos j1, j2]
    · have j1 := congrArg Prod.fst j
      have j2 := congrArg Prod.snd j
      simp only at j1 j2
      rw [if_neg (by omega), if_pos j2, j1]
  have ht0 : 0 ≤ t ∧ t < N := by
    rcases j with j | j
    · have j2 := congrArg Prod.snd j
      simp only at j2
      omega
    · have j1 := congrArg Prod.fst j
      simp only at j1
      omega
  refine ⟨i, hi, ?_⟩
  unfold okAt
  rw [ht, decide_eq_true ht0.1, Bool.true_and]
  have g2 : Goes (edges (rem f i) (l - 1)) ((t.toNat : Nat) : Int) w := by
    rw [show ((t.toNat : Nat) : Int) = t by omega]
    exact ⟨g.conn.perm hM.symm, fun hne2 => by
      obtain ⟨d, hd, hdt⟩ := g.touch (by intro e; rw [e] at hM; exact hne2 (List.Perm.eq_nil hM))
      exact ⟨d, hM.symm.subset hd, hdt⟩, fun x => by rw [deg_perm hM x]; exact g.par x⟩
  exact goes_canGo (inN_rem hin hi) (by omega) g2
/-- the next step: the least point that can be walked to, and the first line to it -/
structure IsNext (N : Nat) (f : Nat → Nat → Int) (l now T k : Nat) : Prop where
  kl : k < l
  ok : okAt N f l now k = true
  to_ : other (f k) now = (T : Int)
  least : ∀ j, j < l → okAt N f l now j = true → (T : Int) ≤ other (f j) now
  first : ∀ j, j < k → okAt N f l now j = true → (T : Int) < other (f j) now
theorem IsNext.uniq {N : Nat} {f : Nat → Nat → Int} {l now t k t' k' : Nat} (h : IsNext N f l now t k) (h' : IsNext N f l now t' k') : t = t' ∧ k = k' := by
  have h1 := h.least k' h'.kl h'.ok
  have h2 := h'.least k h.kl h.ok
  rw [h'.to_] at h1
  rw [h.to_] at h2
  have ht : t = t' := by omega
  refine ⟨ht, ?_⟩
  rcases (by omega : k < k' ∨ k = k' ∨ k' < k) with q | q | q
  · have := h'.first k q h.ok
    rw [h.to_] at this; omega
  · exact q
  · have := h.first k' q h'.ok
    rw [h'.to_] at this; omega
/-- the best step among the first j lines: the point (N where there is none) and the line -/
def bestTo (N : Nat) (f : Nat → Nat → Int) (l now : Nat) : Nat → Nat × Int
  | 0 => (N, -1)
  | j + 1 => if okAt N f l now j && decide (other (f j) now < (bestTo N f l now j).1) then ((other (f j) now).toNat, j) else bestTo N f l now j
theorem best_inv {N : Nat} {f : Nat → Nat → Int} {l now : Nat} : ∀ j, j ≤ l →
    (∀ i, i < j → okAt N f l now i = true → ((bestTo N f l now j).1 : Int) ≤ other (f i) now) ∧ (bestTo N f l now j).1 ≤ N ∧
    ((bestTo N f l now j).1 < N → ∃ k : Nat, (bestTo N f l now j).2 = k ∧ k < j ∧ okAt N f l now k = true ∧ other (f k) now = ((bestTo N f l now j).1 : Int) ∧ ∀ i, i < k → okAt N f l now i = true → ((bestTo N f l now j).1 : Int) < other (f i) now) := by
  intro j
  induction j with
  | zero => exact fun _ => ⟨fun i hi => by omega, Nat.le_refl _, fun h => absurd h (Nat.lt_irrefl _)⟩
  | succ j ih =>
    intro hj
    obtain ⟨h1, h2, h3⟩ := ih (by omega)
    rcases Bool.eq_false_or_eq_true (okAt N f l now j && decide (other (f j) now < (bestTo N f l now j).1)) with q | q
    · have e : bestTo N f l now (j + 1) = ((other (f j) now).toNat, (j : Int)) := by simp only [bestTo]; rw [if_pos q]
      have q2 := Bool.and_eq_true_iff.1 q
      have q3 := of_decide_eq_true q2.2
      have q0 : 0 ≤ other (f j) now := by
        have := q2.1
        unfold okAt at this
        exact of_decide_eq_true (Bool.and_eq_true_iff.1 this).1
      rw [e]
      simp only
      refine ⟨fun i hi ho => ?_, by omega, fun _ => ⟨j, rfl, by omega, q2.1, by omega, fun i hi ho => ?_⟩⟩
      · rcases (by omega : i < j ∨ i = j) with z | z
        · have := h1 i z ho; omega
        · rw [z]; omega
      · have := h1 i hi ho; omega
    · have e : bestTo N f l now (j + 1) = bestTo N f l now j := by simp only [bestTo]; rw [if_neg (by rw [q]; simp)]
      rw [e]
      refine ⟨fun i hi ho => ?_, h2, fun h => ?_⟩
      · rcases (by omega : i < j ∨ i = j) with z | z
        · exact h1 i z ho
        · subst z
          rw [ho, Bool.true_and] at q
          have := of_decide_eq_false q
          omega
      · obtain ⟨k, a, b, c⟩ := h3 h
        exact ⟨k, a, by omega, c⟩
theorem best_next {N : Nat} {f : Nat → Nat → Int} {l now : Nat} (hin : inN N f l) (hn : now < N) (hl : 0 < l) (h : canGo N f l now = true) :
    ∃ t k : Nat, bestTo N f l now l = (t, (k : Int)) ∧ t < N ∧ k < l ∧ IsNext N f l now t k := by
  obtain ⟨i, hi, ho⟩ := some_ok hin hn hl h
  obtain ⟨h1, h2, h3⟩ := best_inv (N := N) (f := f) (now := now) l (Nat.le_refl _)
  have h4 := h1 i hi ho
  have h0 : 0 ≤ other (f i) now := by
    unfold okAt at ho
    exact of_decide_eq_true (Bool.and_eq_true_iff.1 ho).1
  have h5 := (other_in hin hi h0).1
  obtain ⟨k, a, b, c, d, e⟩ := h3 (by omega)
  exact ⟨(bestTo N f l now l).1, k, by rw [← a], by omega, b, ⟨b, c, d, h1, e⟩⟩
theorem next_go {N : Nat} {f : Nat → Nat → Int} {l now t k : Nat} (h : IsNext N f l now t k) : canGo N (rem f k) (l - 1) t = true := by
  have := h.ok
  unfold okAt at this
  have h2 := (Bool.and_eq_true_iff.1 this).2
  rw [h.to_, Int.toNat_natCast] at h2
  exact h2
/-- what is walked behind 'now' -/
def walkL (N : Nat) : Nat → (Nat → Nat → Int) → Nat → List Int
  | 0, _, _ => []
  | l + 1, f, now => ((bestTo N f (l + 1) now (l + 1)).1 : Int) :: walkL N l (rem f (bestTo N f (l + 1) now (l + 1)).2.toNat) (bestTo N f (l + 1) now (l + 1)).1
theorem walkL_len (N : Nat) : ∀ l f now, (walkL N l f now).length = l := by
  intro l
  induction l with
  | zero => intro f now; rfl
  | succ l ih => intro f now; simp only [walkL, List.length_cons, ih]
theorem walkL_next {N : Nat} {f : Nat → Nat → Int} {l now t k : Nat} (hb : bestTo N f l now l = (t, (k : Int))) (hl : 0 < l) : walkL N l f now = (t : Int) :: walkL N (l - 1) (rem f k) t := by
  obtain ⟨m, rfl⟩ : ∃ m, l = m + 1 := ⟨l - 1, by omega⟩
  rw [Nat.add_sub_cancel]
  simp only [walkL, hb, Int.toNat_natCast]
end Go.Proofs.Ytkgabnhfjmldbaa
