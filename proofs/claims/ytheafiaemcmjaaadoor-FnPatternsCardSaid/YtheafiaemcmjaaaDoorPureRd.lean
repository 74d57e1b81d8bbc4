/- Plain functions: the cell of a text. No program in sight. -/
import Derived.Test.YtheafiaemcmjaaaDoorPureTx
namespace Go.Proofs.YtheafiaemcmjaaaDoor
theorem cellOk_congr {f g : Nat → Int} (h0 : f 0 = g 0) (h1 : f 1 = g 1) (h2 : f 2 = g 2) : cellOk f = cellOk g := by unfold cellOk; rw [h0, h1, h2]
theorem cellTx_congr {f g : Nat → Int} (h0 : f 0 = g 0) (h1 : f 1 = g 1) (h2 : f 2 = g 2) : cellTx f = cellTx g := by unfold cellTx; rw [cellOk_congr h0 h1 h2, h0, h1, h2]
/-- the k-th of all cells that are tried -/
def cellAt (k : Nat) : Nat → Int
  | 0 => (k / 36 : Nat)
  | 1 => (k / 6 % 6 : Nat)
  | _ => (k % 6 : Nat)
def isTx (l : List UInt8) (k : Nat) : Bool := cellOk (cellAt k) && cellTx (cellAt k) == l
def rdK (l : List UInt8) : Option Nat := (List.range 108).find? (isTx l)
def readOk (l : List UInt8) : Bool := (rdK l).isSome
def readC (l : List UInt8) : Nat → Int := cellAt ((rdK l).getD 0)
theorem fig_inj {m n : Nat} (h : m ≤ 9) (h' : n ≤ 9) (e : figs m = figs n) : m = n := by
  simp only [figs, List.cons.injEq, and_true] at e
  have := congrArg UInt8.toNat e
  simp [UInt8.toNat_ofNat'] at this
  omega
theorem cell_inj {f g : Nat → Int} (hf : cellOk f = true) (hg : cellOk g = true) (e : cellTx f = cellTx g) : f 0 = g 0 ∧ f 1 = g 1 ∧ f 2 = g 2 := by
  obtain ⟨⟨a1, a2⟩, ⟨b1, b2⟩, ⟨c1, c2⟩, d⟩ := cellOk_t hf
  obtain ⟨⟨a3, a4⟩, ⟨b3, b4⟩, ⟨c3, c4⟩, d'⟩ := cellOk_t hg
  have hd : f 0 = 0 ↔ f 1 = f 2 := by rw [Bool.eq_iff_iff] at d; simpa using d
  have hd' : g 0 = 0 ↔ g 1 = g 2 := by rw [Bool.eq_iff_iff] at d'; simpa using d'
  unfold cellTx at e
  rw [if_pos hf, if_pos hg] at e
  by_cases h0 : f 0 = 0 <;> by_cases h1 : g 0 = 0
  · rw [if_pos h0, if_pos h1] at e
    have := fig_inj (by omega) (by omega) e
    have := hd.1 h0; have := hd'.1 h1
    omega
  · rw [if_pos h0, if_neg h1] at e
    have := congrArg List.length e
    simp [figs] at this
  · rw [if_neg h0, if_pos h1] at e
    have := congrArg List.length e
    simp [figs] at this
  · rw [if_neg h0, if_neg h1] at e
    simp only [figs, List.cons_append, List.nil_append, List.cons.injEq, and_true] at e
    obtain ⟨e1, e2, e3⟩ := e
    have q1 : (f 1).toNat = (g 1).toNat := fig_inj (by omega) (by omega) (by simp only [figs, e1])
    have q2 : (f 2).toNat = (g 2).toNat := fig_inj (by omega) (by omega) (by simp only [figs, e3])
    have q3 : f 0 = g 0 := by
      by_cases x : f 0 = 1 <;> by_cases y : g 0 = 1
      · omega
      · rw [if_pos x, if_neg y] at e2; exact absurd e2 (by decide)
      · rw [if_neg x, if_pos y] at e2; exact absurd e2 (by decide)
      · omega
    omega
theorem cell_some {f : Nat → Int} (h : cellOk f = true) : ∃ k, k < 108 ∧ f 0 = cellAt k 0 ∧ f 1 = cellAt k 1 ∧ f 2 = cellAt k 2 := by
  obtain ⟨⟨a1, a2⟩, ⟨b1, b2⟩, ⟨c1, c2⟩, _⟩ := cellOk_t h
  refine ⟨(36 * f 0 + 6 * f 1 + f 2).toNat, by omega, ?_, ?_, ?_⟩ <;> simp only [cellAt] <;> omega
theorem read_hit {l : List UInt8} {k : Nat} (hk : k < 108) (hO : cellOk (cellAt k) = true) (e : cellTx (cellAt k) = l) (hn : ∀ j, j < k → isTx l j = false) : readOk l = true ∧ readC l = cellAt k := by
  have h : rdK l = some k := by
    unfold rdK
    rw [List.find?_range_eq_some]
    refine ⟨by unfold isTx; rw [hO, e]; simp, by simpa using hk, fun j hj => by rw [hn j hj]; rfl⟩
  unfold readOk readC
  rw [h]
  exact ⟨rfl, rfl⟩
theorem read_miss {l : List UInt8} (hn : ∀ j, j < 108 → isTx l j = false) : readOk l = false ∧ readC l = cellAt 0 := by
  have h : rdK l = none := by
    unfold rdK
    rw [List.find?_eq_none]
    intro j hj
    rw [hn j (by simpa using hj)]
    simp
  unfold readOk readC
  rw [h]
  exact ⟨rfl, rfl⟩
theorem read_yes {l : List UInt8} {f : Nat → Int} (hO : cellOk f = true) (e : cellTx f = l) : readOk l = true ∧ readC l 0 = f 0 ∧ readC l 1 = f 1 ∧ readC l 2 = f 2 := by
  obtain ⟨k, hk, e0, e1, e2⟩ := cell_some hO
  have hO' : cellOk (cellAt k) = true := by rw [← cellOk_congr e0 e1 e2]; exact hO
  have e' : cellTx (cellAt k) = l := by rw [← cellTx_congr e0 e1 e2]; exact e
  have hs : (rdK l).isSome = true := by
    unfold rdK
    rw [List.find?_isSome]
    exact ⟨k, by simpa using hk, by unfold isTx; rw [hO', e']; simp⟩
  obtain ⟨m, hm⟩ := Option.isSome_iff_exists.1 hs
  have hp := List.find?_some hm
  unfold isTx at hp
  simp only [Bool.and_eq_true, beq_iff_eq] at hp
  have := cell_inj hp.1 hO (by rw [hp.2, e])
  unfold readOk readC
  rw [hm]
  exact ⟨rfl, this⟩
theorem read_no {l : List UInt8} (h : ∀ f : Nat → Int, cellOk f = true → cellTx f = l → False) : readOk l = false ∧ readC l = cellAt 0 :=
  read_miss fun j _ => by
    rcases (Bool.eq_false_or_eq_true (isTx l j)).symm with q | q
    · exact q
    · unfold isTx at q
      simp only [Bool.and_eq_true, beq_iff_eq] at q
      exact absurd q.2 (fun e => h _ q.1 e)
/-- texts that are neither of one nor of three bytes are no cell's -/
theorem read_long {l : List UInt8} (h1 : l.length ≠ 1) (h3 : l.length ≠ 3) : readOk l = false ∧ readC l = cellAt 0 :=
  read_no fun f hO e => by
    unfold cellTx at e
    rw [if_pos hO] at e
    split at e
    · rw [← e] at h1; exact h1 (by simp [figs])
    · rw [← e] at h3; exact h3 (by simp [figs])
def cand1 (c : UInt8) : Nat → Int
  | 0 => 0
  | _ => (c.toNat : Int) - 48
def cand3 (c d e : UInt8) : Nat → Int
  | 0 => if d = 92 then 2 else 1
  | 1 => (c.toNat : Int) - 48
  | _ => (e.toNat : Int) - 48
theorem fig_byte {n : Nat} {c : UInt8} (h : n ≤ 9) (e : UInt8.ofNat (48 + n) = c) : (c.toNat : Int) - 48 = n := by
  rw [← e]
  simp [UInt8.toNat_ofNat']
  omega
theorem read_1 {c : UInt8} : (cellOk (cand1 c) = true ∧ cellTx (cand1 c) = [c] ∧ readOk [c] = true ∧ readC [c] 0 = cand1 c 0 ∧ readC [c] 1 = cand1 c 1 ∧ readC [c] 2 = cand1 c 2) ∨ (cellTx (cand1 c) ≠ [c] ∧ readOk [c] = false ∧ readC [c] = cellAt 0) := by
  by_cases h : cellTx (cand1 c) = [c]
  · have hO : cellOk (cand1 c) = true := by
      rcases (Bool.eq_false_or_eq_true (cellOk (cand1 c))).symm with q | q
      · rw [cellTx_no q] at h; cases h
      · exact q
    exact .inl ⟨hO, h, read_yes hO h⟩
  · refine .inr ⟨h, read_no fun f hO e => h ?_⟩
    obtain ⟨⟨a1, a2⟩, ⟨b1, b2⟩, ⟨c1, c2⟩, d⟩ := cellOk_t hO
    have hd : f 0 = 0 ↔ f 1 = f 2 := by rw [Bool.eq_iff_iff] at d; simpa using d
    rw [← e]
    have e' := e
    unfold cellTx at e'
    rw [if_pos hO] at e'
    by_cases h0 : f 0 = 0
    · rw [if_pos h0] at e'
      simp only [figs, List.cons.injEq, and_true] at e'
      have q := fig_byte (by omega) e'
      exact cellTx_congr (by simp only [cand1]; omega) (by simp only [cand1]; omega) (by have := hd.1 h0; simp only [cand1]; omega)
    · rw [if_neg h0] at e'
      have := congrArg List.length e'
      simp [figs] at this
theorem read_3 {c d e : UInt8} : (cellOk (cand3 c d e) = true ∧ cellTx (cand3 c d e) = [c, d, e] ∧ readOk [c, d, e] = true ∧ readC [c, d, e] 0 = cand3 c d e 0 ∧ readC [c, d, e] 1 = cand3 c d e 1 ∧ readC [c, d, e] 2 = cand3 c d e 2) ∨ (cellTx (cand3 c d e) ≠ [c, d, e] ∧ readOk [c, d, e] = false ∧ readC [c, d, e] = cellAt 0) := by
  by_cases h : cellTx (cand3 c d e) = [c, d, e]
  · have hO : cellOk (cand3 c d e) = true := by
      rcases (Bool.eq_false_or_eq_true (cellOk (cand3 c d e))).symm with q | q
      · rw [cellTx_no q] at h; cases h
      · exact q
    exact .inl ⟨hO, h, read_yes hO h⟩
  · refine .inr ⟨h, read_no fun f hO q => h ?_⟩
    obtain ⟨⟨a1, a2⟩, ⟨b1, b2⟩, ⟨c1, c2⟩, _⟩ := cellOk_t hO
    rw [← q]
    have e' := q
    unfold cellTx at e'
    rw [if_pos hO] at e'
    by_cases h0 : f 0 = 0
    · rw [if_pos h0] at e'
      have := congrArg List.length e'
      simp [figs] at this
    · rw [if_neg h0] at e'
      simp only [figs, List.cons_append, List.nil_append, List.cons.injEq, and_true] at e'
      obtain ⟨e1, e2, e3⟩ := e'
      have q1 := fig_byte (by omega) e1
      have q3 := fig_byte (by omega) e3
      refine cellTx_congr ?_ (by simp only [cand3]; omega) (by simp only [cand3]; omega)
      simp only [cand3]
      by_cases x : f 0 = 1
      · rw [if_pos x] at e2
        rw [if_neg (by rw [← e2]; decide)]; omega
      · rw [if_neg x] at e2
        rw [if_pos e2.symm]; omega
end Go.Proofs.YtheafiaemcmjaaaDoor
