/- Plain functions: the block that a text says. No program in sight. -/
import Derived.Test.YtheafiaemcmjaaaDoorPureSp
import Derived.Test.YtheafiaemcmjaaaDoorPureRd
import Derived.Test.YtheafiaemcmjaaaDoorPureBt
namespace Go.Proofs.YtheafiaemcmjaaaDoor
/-- a byte that ends a cell's text -/
def isSep (x : UInt8) : Bool := x == 44 || x == 59
/-- the texts of the cells -/
def pieces : List UInt8 → List (List UInt8)
  | [] => [[]]
  | x :: l => if isSep x then [] :: pieces l else match pieces l with
    | [] => [[x]]
    | p :: ps => (x :: p) :: ps
theorem pieces_hit {x : UInt8} (h : isSep x = true) (l : List UInt8) : pieces (x :: l) = [] :: pieces l := by rw [pieces, if_pos h]
theorem pieces_miss {x : UInt8} {l p : List UInt8} {ps : List (List UInt8)} (h : isSep x = false) (e : pieces l = p :: ps) : pieces (x :: l) = (x :: p) :: ps := by
  rw [pieces, if_neg (by rw [h]; decide), e]
theorem pieces_cons (l : List UInt8) : ∃ p ps, pieces l = p :: ps := by
  induction l with
  | nil => exact ⟨[], [], rfl⟩
  | cons x l ih =>
    obtain ⟨p, ps, e⟩ := ih
    rcases (Bool.eq_false_or_eq_true (isSep x)).symm with h | h
    · exact ⟨_, _, pieces_miss h e⟩
    · exact ⟨_, _, pieces_hit h l⟩
theorem pieces_len (l : List UInt8) : (pieces l).length ≤ l.length + 1 := by
  induction l with
  | nil => simp [pieces]
  | cons x l ih =>
    obtain ⟨p, ps, e⟩ := pieces_cons l
    rcases (Bool.eq_false_or_eq_true (isSep x)).symm with h | h
    · rw [pieces_miss h e]; rw [e] at ih; simp only [List.length_cons] at ih ⊢; omega
    · rw [pieces_hit h]; simp only [List.length_cons]; omega
/-- rows first, then the cells of each row -/
theorem pieces_rows (l : List UInt8) : (pcs 59 l).flatMap (pcs 44) = pieces l := by
  induction l with
  | nil => rfl
  | cons x l ih =>
    by_cases h : x = 59
    · subst h
      rw [pcs_hit, pieces_hit (by decide), List.flatMap_cons, ih]
      rfl
    · obtain ⟨p, ps, e⟩ := pcs_cons 59 l
      rw [pcs_miss h e, List.flatMap_cons]
      rw [e, List.flatMap_cons] at ih
      by_cases g : x = 44
      · subst g
        rw [pcs_hit, pieces_hit (by decide), ← ih]
        rfl
      · obtain ⟨q, qs, e2⟩ := pcs_cons 44 p
        rw [e2] at ih
        rw [pcs_miss g e2, pieces_miss (p := q) (ps := qs ++ ps.flatMap (pcs 44)) (by unfold isSep; simp [h, g]) (by rw [← ih]; rfl)]
        rfl
theorem pieces_snoc_sep {x : UInt8} (h : isSep x = true) : ∀ a : List UInt8, pieces (a ++ [x]) = pieces a ++ [[]]
  | [] => by rw [List.nil_append, pieces_hit h]; rfl
  | y :: a => by
    have ih := pieces_snoc_sep h a
    obtain ⟨p, ps, e⟩ := pieces_cons a
    rcases (Bool.eq_false_or_eq_true (isSep y)).symm with g | g
    · rw [e] at ih
      rw [List.cons_append, pieces_miss g ih, pieces_miss g e]
      rfl
    · rw [List.cons_append, pieces_hit g, pieces_hit g, ih]
      rfl
theorem pieces_snoc {x : UInt8} (h : isSep x = false) : ∀ (a : List UInt8) (Qs : List (List UInt8)) (q : List UInt8), pieces a = Qs ++ [q] → pieces (a ++ [x]) = Qs ++ [q ++ [x]]
  | [], Qs, q, e => by
    have e' : [([] : List UInt8)] = Qs ++ [q] := e
    match Qs, e' with
    | [], e' =>
      simp only [List.nil_append, List.cons.injEq, and_true] at e'
      subst e'
      exact pieces_miss h (show pieces [] = [] :: [] from rfl)
    | r :: Qs, e' =>
      have := congrArg List.length e'
      simp at this
  | y :: a, Qs, q, e => by
    obtain ⟨p, ps, ea⟩ := pieces_cons a
    rcases (Bool.eq_false_or_eq_true (isSep y)).symm with g | g
    · rw [pieces_miss g ea] at e
      match Qs, e with
      | [], e =>
        simp only [List.nil_append, List.cons.injEq] at e
        obtain ⟨rfl, rfl⟩ := e
        have ih := pieces_snoc h a [] p ea
        rw [List.cons_append, pieces_miss g ih]
        rfl
      | r :: Qs, e =>
        simp only [List.cons_append, List.cons.injEq] at e
        obtain ⟨rfl, rfl⟩ := e
        have ih := pieces_snoc h a (p :: Qs) q ea
        rw [List.cons_append, pieces_miss g ih]
        rfl
    · rw [pieces_hit g, ea] at e
      match Qs, e with
      | [], e =>
        simp only [List.nil_append, List.cons.injEq] at e
        exact absurd e.2 (by simp)
      | r :: Qs, e =>
        simp only [List.cons_append, List.cons.injEq] at e
        obtain ⟨rfl, e⟩ := e
        have ih := pieces_snoc h a Qs q (ea.trans e)
        rw [List.cons_append, pieces_hit g, ih]
        rfl
theorem pieces_pre : ∀ (b a : List UInt8) (Qs : List (List UInt8)) (q : List UInt8), pieces a = Qs ++ [q] → ∃ q' R, pieces (a ++ b) = Qs ++ q' :: R
  | [], a, Qs, q, e => ⟨q, [], by rw [List.append_nil]; exact e⟩
  | x :: b, a, Qs, q, e => by
    rw [show a ++ x :: b = (a ++ [x]) ++ b by simp]
    rcases (Bool.eq_false_or_eq_true (isSep x)).symm with g | g
    · exact pieces_pre b _ Qs _ (pieces_snoc g a Qs q e)
    · obtain ⟨q', R, h⟩ := pieces_pre b (a ++ [x]) (Qs ++ [q]) [] (by rw [pieces_snoc_sep g, e])
      exact ⟨q, q' :: R, by rw [h]; simp⟩
theorem pieces_at {a b : List UInt8} {Qs : List (List UInt8)} {q : List UInt8} (e : pieces a = Qs ++ [q]) (hb : b = [] ∨ ∃ x b', b = x :: b' ∧ isSep x = true) : (pieces (a ++ b))[Qs.length]? = some q := by
  rcases hb with rfl | ⟨x, b', rfl, g⟩
  · rw [List.append_nil, e]; simp
  · obtain ⟨q', R, h⟩ := pieces_pre b' (a ++ [x]) (Qs ++ [q]) [] (by rw [pieces_snoc_sep g, e])
    rw [show a ++ x :: b' = (a ++ [x]) ++ b' by simp, h]
    simp
/-- ahead of the byte k there are c whole texts, and the next one begins at b -/
def Cut (l : List UInt8) (k b c : Nat) : Prop := b ≤ k ∧ ∃ Qs, pieces (l.take k) = Qs ++ [(l.take k).drop b] ∧ Qs.length = c
theorem cut_0 (l : List UInt8) : Cut l 0 0 0 := ⟨Nat.le_refl _, [], by simp [pieces], rfl⟩
theorem take_snoc {l : List UInt8} {k : Nat} (hk : k < l.length) : l.take (k + 1) = l.take k ++ [l.getD k 0] := by
  rw [List.take_add_one]
  simp [List.getD, hk]
theorem cut_skip {l : List UInt8} {k b c : Nat} (hk : k < l.length) (h : Cut l k b c) (hx : isSep (l.getD k 0) = false) : Cut l (k + 1) b c := by
  obtain ⟨hb, Qs, e, hc⟩ := h
  refine ⟨by omega, Qs, ?_, hc⟩
  rw [take_snoc hk, pieces_snoc hx _ Qs _ e, List.drop_append_of_le_length (by rw [List.length_take]; omega)]
theorem cut_sep {l : List UInt8} {k b c : Nat} (hk : k < l.length) (h : Cut l k b c) (hx : isSep (l.getD k 0) = true) : Cut l (k + 1) (k + 1) (c + 1) := by
  obtain ⟨hb, Qs, e, hc⟩ := h
  refine ⟨Nat.le_refl _, Qs ++ [(l.take k).drop b], ?_, by simp [hc]⟩
  have e2 : (l.take k ++ [l.getD k 0]).drop (k + 1) = [] := List.drop_eq_nil_of_le (by rw [List.length_append, List.length_take, List.length_singleton]; omega)
  rw [take_snoc hk, pieces_snoc_sep hx, e, e2]
theorem cut_piece {l : List UInt8} {k b c : Nat} (h : Cut l k b c) (hx : k = l.length ∨ k < l.length ∧ isSep (l.getD k 0) = true) : (pieces l)[c]? = some ((l.take k).drop b) := by
  obtain ⟨hb, Qs, e, rfl⟩ := h
  have h := pieces_at (b := l.drop k) e ?_
  · rw [List.take_append_drop] at h
    exact h
  rcases hx with rfl | ⟨hk, hx⟩
  · exact .inl (by simp)
  · refine .inr ⟨l.getD k 0, l.drop (k + 1), ?_, hx⟩
    rw [List.drop_eq_getElem_cons hk]
    simp [List.getD, hk]
theorem cut_end {l : List UInt8} {b c : Nat} (h : Cut l l.length b c) : (pieces l).length = c + 1 := by
  obtain ⟨hb, Qs, e, rfl⟩ := h
  rw [List.take_length] at e
  rw [e]; simp
theorem cut_le {l : List UInt8} {k b c : Nat} (hk : k ≤ l.length) (h : Cut l k b c) : c ≤ k ∧ b ≤ k := by
  obtain ⟨hb, Qs, e, rfl⟩ := h
  have := pieces_len (l.take k)
  rw [e, List.length_append, List.length_take] at this
  simp at this
  omega
theorem pcs_count (c : UInt8) (l : List UInt8) : (pcs c l).length = l.count c + 1 := by
  induction l with
  | nil => simp [pcs]
  | cons x l ih =>
    by_cases h : x = c
    · subst h; rw [pcs_hit]; simp [ih]
    · obtain ⟨p, ps, e⟩ := pcs_cons c l
      rw [pcs_miss h e]
      rw [e] at ih
      rw [List.count_cons_of_ne (fun q => h q)]
      simpa using ih
/-- the rows up to the byte k -/
def rowsTo (l : List UInt8) (k : Nat) : Nat := (l.take k).count 59 + 1
theorem rowsTo_0 (l : List UInt8) : rowsTo l 0 = 1 := by simp [rowsTo]
theorem rowsTo_hit {l : List UInt8} {k : Nat} (hk : k < l.length) (h : l.getD k 0 = 59) : rowsTo l (k + 1) = rowsTo l k + 1 := by
  unfold rowsTo
  rw [take_snoc hk, h]; simp
theorem rowsTo_miss {l : List UInt8} {k : Nat} (hk : k < l.length) (h : l.getD k 0 ≠ 59) : rowsTo l (k + 1) = rowsTo l k := by
  unfold rowsTo
  have h2 : (l.getD k 0 == 59) = false := beq_eq_false_iff_ne.2 h
  rw [take_snoc hk, List.count_append, List.count_singleton, h2]
  simp
theorem rowsTo_le (l : List UInt8) (k : Nat) : rowsTo l k ≤ k + 1 := by
  unfold rowsTo
  have := List.count_le_length (a := (59 : UInt8)) (l := l.take k)
  rw [List.length_take] at this
  omega
theorem rowsTo_end (l : List UInt8) : rowsTo l l.length = (pcs 59 l).length := by rw [pcs_count, rowsTo, List.take_length]
def bN (l : List UInt8) : Nat := (pieces l).length
def bF (l : List UInt8) : Nat → Nat → Int := fun i j => readC ((pieces l).getD i []) j
def bS (l : List UInt8) : Nat := (pcs 59 l).length
def okAll (l : List UInt8) : Bool := (pieces l).all readOk
def readB (l : List UInt8) : Bool := okAll l && (blockOk (bS l : Nat) (bN l) (bF l) && (blockTx (bS l : Nat) (bN l) (bF l) == l))
def rbS (l : List UInt8) : Int := if readB l then (bS l : Nat) else 0
def rbN (l : List UInt8) : Nat := if readB l then bN l else 0
theorem readB_t {l : List UInt8} (h : readB l = true) : okAll l = true ∧ blockOk (bS l : Nat) (bN l) (bF l) = true ∧ blockTx (bS l : Nat) (bN l) (bF l) = l := by
  unfold readB at h
  simp only [Bool.and_eq_true, beq_iff_eq] at h
  exact ⟨h.1, h.2.1, h.2.2⟩
theorem readB_n {l : List UInt8} (h : readB l = true) : bN l ≤ 16 ∧ l.length ≤ 64 := by
  obtain ⟨_, h2, h3⟩ := readB_t h
  have hB := block_of h2
  refine ⟨hB.n16.2, ?_⟩
  unfold blockTx at h3
  rw [if_pos h2] at h3
  have := bTx_len (bS l : Int).toNat (bF l) (bN l)
  rw [h3] at this
  have := hB.n16.2
  omega
theorem readB_piece {l : List UInt8} {i : Nat} {p : List UInt8} (hp : (pieces l)[i]? = some p) (h : readOk p = false) : readB l = false := by
  rcases (Bool.eq_false_or_eq_true (readB l)).symm with e | e
  · exact e
  · have h2 := (readB_t e).1
    unfold okAll at h2
    rw [List.all_eq_true] at h2
    rw [h2 p (List.mem_of_getElem? hp)] at h
    cases h
theorem readB_all {l : List UInt8} (h : ∀ i, i < bN l → ∀ p, (pieces l)[i]? = some p → readOk p = true) : okAll l = true := by
  unfold okAll
  rw [List.all_eq_true]
  intro p hp
  obtain ⟨i, hi, e⟩ := List.mem_iff_getElem.1 hp
  exact h i hi p (by rw [List.getElem?_eq_getElem hi, e])
theorem readB_of {l : List UInt8} (h : okAll l = true) (h2 : blockOk (bS l : Nat) (bN l) (bF l) = true) (h3 : blockTx (bS l : Nat) (bN l) (bF l) = l) : readB l = true := by
  unfold readB
  rw [h, h2, h3]
  simp
theorem readB_no {l : List UInt8} (h2 : blockOk (bS l : Nat) (bN l) (bF l) = false) : readB l = false := by
  rcases (Bool.eq_false_or_eq_true (readB l)).symm with e | e
  · exact e
  · rw [(readB_t e).2.1] at h2; cases h2
theorem readB_ne {l : List UInt8} (h3 : blockTx (bS l : Nat) (bN l) (bF l) ≠ l) : readB l = false := by
  rcases (Bool.eq_false_or_eq_true (readB l)).symm with e | e
  · exact e
  · exact absurd (readB_t e).2.2 h3
theorem readB_long {l : List UInt8} (h : 80 < l.length) : readB l = false := by
  rcases (Bool.eq_false_or_eq_true (readB l)).symm with e | e
  · exact e
  · have := (readB_n e).2; omega
theorem bF_at {l p : List UInt8} {i : Nat} (h : (pieces l)[i]? = some p) (j : Nat) : bF l i j = readC p j := by
  unfold bF
  rw [List.getD, h]
  rfl
theorem readC_bd (l : List UInt8) (j : Nat) : 0 ≤ readC l j ∧ readC l j ≤ 107 := by
  have hk : (rdK l).getD 0 < 108 := by
    unfold rdK
    cases e : (List.range 108).find? (isTx l) with
    | none => simp
    | some k => have := List.mem_of_find?_eq_some e; simpa using this
  unfold readC
  match j with
  | 0 => simp only [cellAt]; omega
  | 1 => simp only [cellAt]; omega
  | j + 2 => simp only [cellAt]; omega
theorem bF_wf (l : List UInt8) (i j : Nat) : (Lit.int .i64 (bF l i j)).wf = true := WalkArith.wf_i64 (by have := readC_bd ((pieces l).getD i []) j; unfold bF; omega)
/-- pieces ahead of the row i -/
def offs (l : List UInt8) (i : Nat) : Nat := (((pcs 59 l).take i).flatMap (pcs 44)).length
theorem offs_0 (l : List UInt8) : offs l 0 = 0 := rfl
theorem offs_step {l r : List UInt8} {i : Nat} (h : (pcs 59 l)[i]? = some r) : offs l (i + 1) = offs l i + (pcs 44 r).length := by
  unfold offs
  rw [List.take_add_one, h]
  simp
theorem offs_end (l : List UInt8) : offs l (pcs 59 l).length = bN l := by unfold offs bN; rw [List.take_length, pieces_rows]
theorem offs_le (l : List UInt8) (i : Nat) : offs l i ≤ bN l := by
  rw [← offs_end]
  unfold offs
  rw [List.take_length]
  conv => rhs; rw [← List.take_append_drop i (pcs 59 l), List.flatMap_append, List.length_append]
  omega
theorem offs_at {l r : List UInt8} {i j : Nat} {p : List UInt8} (h : (pcs 59 l)[i]? = some r) (hp : (pcs 44 r)[j]? = some p) : (pieces l)[offs l i + j]? = some p := by
  rw [← pieces_rows]
  have hi : i < (pcs 59 l).length := by
    rcases Nat.lt_or_ge i (pcs 59 l).length with q | q
    · exact q
    · rw [List.getElem?_eq_none q] at h; cases h
  have hr : (pcs 59 l)[i] = r := by rw [List.getElem?_eq_getElem hi] at h; exact Option.some.inj h
  conv => lhs; rw [← List.take_append_drop i (pcs 59 l), List.flatMap_append]
  rw [List.getElem?_append_right (by unfold offs; omega), show offs l i + j - (List.flatMap (pcs 44) (List.take i (pcs 59 l))).length = j by unfold offs; omega, List.drop_eq_getElem_cons hi, List.flatMap_cons, hr]
  have hj : j < (pcs 44 r).length := by
    rcases Nat.lt_or_ge j (pcs 44 r).length with q | q
    · exact q
    · rw [List.getElem?_eq_none q] at hp; cases hp
  rw [List.getElem?_append_left hj]
  exact hp
end Go.Proofs.YtheafiaemcmjaaaDoor
