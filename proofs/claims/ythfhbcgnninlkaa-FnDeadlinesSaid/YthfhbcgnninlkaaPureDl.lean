/- Plain facts of the law FnDeadlines. No program in sight. -/
import Derived.Test.YthfhbcgnninlkaaPureJ
namespace Go.Proofs.Ythfhbcgnninlkaa
/-- the numbers of a drawn parcel -/
structure Drawn (q : Nat → Int) : Prop where
  r0 : 0 ≤ q 0
  r1 : q 0 ≤ 3
  f0 : 0 ≤ q 1
  f1 : q 1 ≤ 5
  s0 : 0 ≤ q 2
  s1 : q 2 ≤ 59
  c0 : q 3 = -1 ∨ (q 2 ≤ q 3 ∧ q 3 ≤ 200)
theorem Drawn.ok {q : Nat → Int} (h : Drawn q) : parcelOk q = true := by
  have h1 := h.r0; have h2 := h.r1; have h3 := h.f0; have h4 := h.f1; have h5 := h.s0; have h6 := h.s1
  simp only [parcelOk, Bool.and_eq_true, Bool.or_eq_true, beq_iff_eq]
  refine ⟨⟨⟨inB_mk (by omega) (by omega), inB_mk (by omega) (by omega)⟩, inB_mk (by omega) (by omega)⟩, ?_⟩
  rcases h.c0 with h7 | h7
  · exact .inl h7
  · exact .inr (inB_mk (by omega) (by omega))
theorem Drawn.wf {q : Nat → Int} (h : Drawn q) {j : Nat} (hj : j < 4) : (Lit.int .i64 (q j)).wf = true := by
  have h1 := h.r0; have h2 := h.r1; have h3 := h.f0; have h4 := h.f1; have h5 := h.s0; have h6 := h.s1
  rcases (by omega : j = 0 ∨ j = 1 ∨ j = 2 ∨ j = 3) with rfl | rfl | rfl | rfl
  · exact WalkArith.wf_i64 (by omega)
  · exact WalkArith.wf_i64 (by omega)
  · exact WalkArith.wf_i64 (by omega)
  · rcases h.c0 with h7 | h7 <;> exact WalkArith.wf_i64 (by omega)
theorem due_is {a b c : Int} (h1 : 0 ≤ a) (h2 : a ≤ 9999) (h3 : 0 ≤ b) (h4 : b ≤ 8) (h5 : 1 ≤ c) (h6 : c ≤ 365) : dueDay a b c = a + (b + 1) * c := by
  unfold dueDay
  rw [inB_mk h1 h2, inB_mk h3 h4, inB_mk h5 h6]
  rfl
/-- what the law asks of one parcel -/
structure DlOne (q : Nat → Int) (a d t : Int) : Prop where
  ok : parcelOk q = true
  a0 : 0 ≤ lateDays q a d t
  a1 : lateDays q a d t ≤ 100000
  b0 : 0 ≤ lateDays q a d (t + 1)
  b1 : lateDays q a d (t + 1) ≤ 100000
  d0 : 0 ≤ dueDay a (q 0) d
  d1 : dueDay a (q 0) d ≤ 13284
  same : 0 ≤ q 3 → lateDays q a d t = lateDays q a d (t + 1)
  diff1 : q 3 < 0 → dueDay a (q 0) d < t + 1 → lateDays q a d (t + 1) - lateDays q a d t = 1
  diff0 : q 3 < 0 → t + 1 ≤ dueDay a (q 0) d → lateDays q a d (t + 1) - lateDays q a d t = 0
theorem dl_one {q : Nat → Int} {a d t : Int} (h : Drawn q) (h1 : 0 ≤ a) (h2 : a ≤ 255) (h3 : 1 ≤ d) (h4 : d ≤ 30) (h5 : 0 ≤ t) (h6 : t ≤ 255) : DlOne q a d t := by
  have hok := h.ok
  have hd := due_is h1 (show a ≤ 9999 by omega) h.r0 (show q 0 ≤ 8 by have := h.r1; omega) h3 (show d ≤ 365 by omega)
  have hm := due_mul h.r0 (show q 0 ≤ 8 by have := h.r1; omega) h3 (show d ≤ 365 by omega)
  have d0 : 0 ≤ dueDay a (q 0) d := by omega
  have d1 : dueDay a (q 0) d ≤ 13284 := (dueDay_bd a (q 0) d).2
  have i1 : inB t 0 99999 = true := inB_mk (by omega) (by omega)
  have i2 : inB (t + 1) 0 99999 = true := inB_mk (by omega) (by omega)
  clear hd hm
  rcases Bool.eq_false_or_eq_true (q 3 == -1) with e | e
  · have x1 := lateDays_yes hok d0 i1 e
    have x2 := lateDays_yes hok d0 i2 e
    rw [beq_iff_eq] at e
    refine ⟨hok, ?_, ?_, ?_, ?_, ?_, ?_, ?_, ?_, ?_⟩ <;> omega
  · have x1 := lateDays_came hok d0 i1 e
    have x2 := lateDays_came hok d0 i2 e
    rw [beq_eq_false_iff_ne] at e
    have h7 := h.c0
    have h8 := h.s0
    refine ⟨hok, ?_, ?_, ?_, ?_, ?_, ?_, ?_, ?_, ?_⟩ <;> omega
/-- what the law asks of the drawn parcels together -/
structure Dl (f : Nat → Nat → Int) (n : Nat) (a d t : Int) (L : List Int) (G : Int) : Prop where
  one : ∀ k, k < n → DlOne (f k) a d t
  g : G = graceTo f a d t n
  len : L.length ≤ 10
  has : ∀ k, k < n → 0 < lateDays (f k) a d t → L.contains (f k 1) = true
  found : ∀ i, i < L.length → ∃ k, k < n ∧ f k 1 = nth L i ∧ 0 < lateDays (f k) a d t
  none : G = 0 ↔ L.length = 0
theorem isLate_iff {f : Nat → Nat → Int} {a d t : Int} {v n : Nat} : isLate f a d t v n = true ↔ ∃ k, k < n ∧ 0 < lateAt f a d t k ∧ f k 1 = (v : Int) := by
  induction n with
  | zero => simp [isLate]
  | succ n ih =>
    simp only [isLate, Bool.or_eq_true, Bool.and_eq_true, decide_eq_true_eq, beq_iff_eq, ih]
    constructor
    · rintro (⟨k, h1, h2, h3⟩ | ⟨h2, h3⟩)
      · exact ⟨k, by omega, h2, h3⟩
      · exact ⟨n, by omega, h2, h3⟩
    · rintro ⟨k, h1, h2, h3⟩
      rcases (by omega : k < n ∨ k = n) with e | rfl
      · exact .inl ⟨k, e, h2, h3⟩
      · exact .inr ⟨h2, h3⟩
theorem graceTo_zero {f : Nat → Nat → Int} {a d t : Int} {n : Nat} : graceTo f a d t n = 0 ↔ ∀ k, k < n → lateAt f a d t k ≤ 0 := by
  induction n with
  | zero => simp [graceTo]
  | succ n ih =>
    have hb := graceTo_bd f a d t n
    simp only [graceTo]
    constructor
    · intro h k hk
      rcases (by omega : k < n ∨ k = n) with e | rfl
      · exact ih.1 (by omega) k e
      · omega
    · intro h
      have h1 := ih.2 fun k hk => h k (by omega)
      have h2 := h n (by omega)
      omega
theorem dl_of {f : Nat → Nat → Int} {n : Nat} {a d t : Int} (h : ∀ k, k < n → Drawn (f k)) (hn : n ≤ 60) (h1 : 0 ≤ a) (h2 : a ≤ 255) (h3 : 1 ≤ d) (h4 : d ≤ 30) (h5 : 0 ≤ t) (h6 : t ≤ 255) :
    Dl f n a d t (lateMembs f a d t n) (graceN f a d t n) := by
  have ho : ∀ k, k < n → DlOne (f k) a d t := fun k hk => dl_one (h k hk) h1 h2 h3 h4 h5 h6
  have hg : graceOk f a d t n = true := by
    unfold graceOk lateOk
    rw [decide_eq_true hn, Bool.true_and, allTo_iff]
    intro k hk
    exact decide_eq_true (ho k hk).a0
  have e1 : graceN f a d t n = graceTo f a d t n := by simp [graceN, hg]
  have e2 : lateMembs f a d t n = lateMs f a d t n := by simp [lateMembs, hg]
  have hhas : ∀ k, k < n → 0 < lateDays (f k) a d t → (lateMembs f a d t n).contains (f k 1) = true := by
    intro k hk hl
    have b0 := (h k hk).f0
    have b1 := (h k hk).f1
    obtain ⟨v, hv⟩ : ∃ v : Nat, f k 1 = (v : Int) := ⟨(f k 1).toNat, by omega⟩
    rw [e2, hv]
    unfold lateMs
    rw [membs_has (by omega)]
    exact isLate_iff.2 ⟨k, hk, hl, hv⟩
  have hfound : ∀ i, i < (lateMembs f a d t n).length → ∃ k, k < n ∧ f k 1 = nth (lateMembs f a d t n) i ∧ 0 < lateDays (f k) a d t := by
    intro i hi
    have hm := nth_mem hi
    rw [e2] at hm ⊢
    obtain ⟨v, hv, hp, e⟩ := membs_lt.1 hm
    obtain ⟨k, k1, k2, k3⟩ := isLate_iff.1 hp
    exact ⟨k, k1, by rw [k3]; exact e.symm, k2⟩
  refine ⟨ho, e1, lateMembs_len f a d t n, hhas, hfound, ?_⟩
  rw [e1, graceTo_zero]
  constructor
  · intro hz
    rcases Nat.eq_zero_or_pos (lateMembs f a d t n).length with e | e
    · exact e
    · obtain ⟨k, k1, _, k3⟩ := hfound 0 e
      have := hz k k1
      unfold lateAt at this
      omega
  · intro hz k hk
    rcases (by omega : lateAt f a d t k ≤ 0 ∨ 0 < lateAt f a d t k) with e | e
    · exact e
    · have := hhas k hk e
      rw [List.contains_iff_mem] at this
      have := List.length_pos_of_mem this
      omega
end Go.Proofs.Ythfhbcgnninlkaa
