/- Plain functions: a text that is cut at a byte. No program in sight. -/
import Derived.Test.YtheafiaemcmjaaaDoorPureTx
import Derived.Lib.SplitLaws
import Derived.Lib.IndexBytes
namespace Go.Proofs.YtheafiaemcmjaaaDoor
/-- the pieces between the bytes c -/
def pcs (c : UInt8) : List UInt8 → List (List UInt8)
  | [] => [[]]
  | x :: l => if x = c then [] :: pcs c l else match pcs c l with
    | [] => [[x]]
    | p :: ps => (x :: p) :: ps
theorem pcs_ne (c : UInt8) (l : List UInt8) : pcs c l ≠ [] := by
  cases l with
  | nil => simp [pcs]
  | cons x l =>
    unfold pcs
    split
    · simp
    · split <;> simp
theorem pcs_hit (c : UInt8) (l : List UInt8) : pcs c (c :: l) = [] :: pcs c l := by rw [pcs, if_pos rfl]
theorem pcs_miss {c x : UInt8} {l p : List UInt8} {ps : List (List UInt8)} (h : x ≠ c) (e : pcs c l = p :: ps) : pcs c (x :: l) = (x :: p) :: ps := by rw [pcs, if_neg h, e]
theorem pcs_cons (c : UInt8) (l : List UInt8) : ∃ p ps, pcs c l = p :: ps := by
  cases e : pcs c l with
  | nil => exact absurd e (pcs_ne c l)
  | cons p ps => exact ⟨p, ps, rfl⟩
theorem splitK_pcs (c : UInt8) : ∀ l : List UInt8, Lib.splitK [c] 0 (Lib.count l [c]) l = pcs c l
  | [] => by rw [Lib.count_miss (by simp [Lib.index])]; rfl
  | x :: l => by
    have ih := splitK_pcs c l
    by_cases h : x = c
    · subst h
      rw [Lib.count_cons_eq, Nat.add_comm, pcs_hit, ← ih]
      have hix : Lib.index (x :: l) [x] = ((0 : Nat) : Int) := by rw [Lib.index]; simp [List.isPrefixOf]
      rw [Lib.splitK, hix]
      simp
    · rw [Lib.count_cons_ne x c l h]
      have hp : ([c] : List UInt8).isPrefixOf (x :: l) = false := by simp [List.isPrefixOf, Ne.symm h]
      have hix : Lib.index (x :: l) [c] = if Lib.index l [c] == -1 then -1 else Lib.index l [c] + 1 := by rw [Lib.index, hp]; simp
      by_cases hm : Lib.index l [c] = -1
      · rw [Lib.count_miss hm] at ih ⊢
        rw [Lib.splitK] at ih ⊢
        rw [pcs_miss h ih.symm]
      · have hge := Lib.index_ge l [c]
        obtain ⟨j, hj⟩ : ∃ j : Nat, Lib.index l [c] = j := ⟨(Lib.index l [c]).toNat, by omega⟩
        have hix' : Lib.index (x :: l) [c] = ((j + 1 : Nat) : Int) := by rw [hix, if_neg (fun e => hm (beq_iff_eq.1 e)), hj]; omega
        have hc := Lib.count_hit (s := l) (sub := [c]) (by simp) hj
        rw [hc, Nat.add_comm] at ih ⊢
        rw [Lib.splitK, hj] at ih
        rw [Lib.splitK, hix']
        have e1 : ((((j : Nat) : Int)) == -1) = false := beq_eq_false_iff_ne.2 (by omega)
        have e2 : ((((j + 1 : Nat) : Int)) == -1) = false := beq_eq_false_iff_ne.2 (by omega)
        rw [e1] at ih
        rw [e2]
        simp only [Bool.false_eq_true, if_false, Int.toNat_natCast, Nat.add_zero, List.length_singleton] at ih ⊢
        rw [pcs_miss h ih.symm]
        simp
/-- what strings.Split gives at a separator of one byte -/
theorem splitB_pcs (c : UInt8) (l : List UInt8) : (Lib.splitB ⟨#[c]⟩ 0 (Lib.countB (strB l) ⟨#[c]⟩) (strB l)) = (pcs c l).map strB := by
  have h := Lib.splitB_data ⟨#[c]⟩ 0 (Lib.countB (strB l) ⟨#[c]⟩) (strB l)
  have e : Lib.countB (strB l) ⟨#[c]⟩ = Lib.count l [c] := by
    unfold Lib.countB
    rw [strB_list]
  rw [strB_list, e] at h
  rw [e]
  have h2 := h.trans (splitK_pcs c l)
  rw [← h2, List.map_map]
  symm
  conv => rhs; rw [← List.map_id (Lib.splitB ⟨#[c]⟩ 0 (Lib.count l [c]) (strB l))]
  apply List.map_congr_left
  intro s _
  exact strB_self s
theorem count_pcs (c : UInt8) (l : List UInt8) : Lib.countB (strB l) ⟨#[c]⟩ + 1 = (pcs c l).length := by
  have h := Lib.splitB_all ⟨#[c]⟩ (by simp [ByteArray.size]) 0 _ (strB l) rfl
  rw [splitB_pcs, List.length_map] at h
  omega
/-- a piece more at the end -/
theorem pcs_snoc {c : UInt8} {p : List UInt8} (hp : c ∉ p) : ∀ a : List UInt8, pcs c (a ++ c :: p) = pcs c a ++ [p]
  | [] => by
    rw [List.nil_append, pcs_hit]
    have key : ∀ p : List UInt8, c ∉ p → pcs c p = [p] := by
      intro p
      induction p with
      | nil => intro _; rfl
      | cons x p ih =>
        intro h
        exact pcs_miss (fun e => h (by rw [e]; simp)) (ih fun q => h (by simp [q]))
    rw [key p hp]
    rfl
  | x :: a => by
    have ih := pcs_snoc hp a
    by_cases h : x = c
    · subst h
      rw [List.cons_append, pcs_hit, pcs_hit, ih]
      rfl
    · obtain ⟨q, qs, e⟩ := pcs_cons c a
      rw [e] at ih
      rw [List.cons_append, pcs_miss h ih, pcs_miss h e]
      rfl
theorem pcs_one {c : UInt8} : ∀ p : List UInt8, c ∉ p → pcs c p = [p]
  | [] => fun _ => rfl
  | x :: p => fun h => pcs_miss (fun e => h (by rw [e]; simp)) (pcs_one p fun q => h (by simp [q]))
/-- the text again, of its pieces -/
def glue (c : UInt8) : List (List UInt8) → List UInt8
  | [] => []
  | p :: ps => c :: p ++ glue c ps
theorem glue_pcs (c : UInt8) : ∀ l : List UInt8, glue c (pcs c l) = c :: l
  | [] => rfl
  | x :: l => by
    have ih := glue_pcs c l
    obtain ⟨q, qs, e⟩ := pcs_cons c l
    by_cases h : x = c
    · subst h
      rw [pcs_hit, glue, ih]
      rfl
    · rw [e] at ih
      rw [pcs_miss h e, glue]
      rw [glue] at ih
      simp only [List.cons_append, List.cons.injEq, true_and] at ih ⊢
      exact ih
end Go.Proofs.YtheafiaemcmjaaaDoor
