/- Plain facts: a block and a quilt are read back from their texts; with something behind the text they are not. No program in sight. -/
import Derived.Test.YtheafiaemcmjaaaDoorPureRb
import Derived.Test.YtheafiaemcmjaaaDoorPureRq
namespace Go.Proofs.YtheafiaemcmjaaaDoor
/-- p holds no byte that ends a text -/
def noSep (p : List UInt8) : Prop := ∀ y ∈ p, isSep y = false
theorem pieces_more : ∀ (p b : List UInt8) (Qs : List (List UInt8)) (q : List UInt8), noSep p → pieces b = Qs ++ [q] → pieces (b ++ p) = Qs ++ [q ++ p]
  | [], b, Qs, q, _, e => by rw [List.append_nil, List.append_nil]; exact e
  | x :: p, b, Qs, q, h, e => by
    have h1 := pieces_snoc (h x (by simp)) b Qs q e
    have h2 := pieces_more p (b ++ [x]) Qs (q ++ [x]) (fun y hy => h y (by simp [hy])) h1
    simpa using h2
theorem pieces_app {x : UInt8} {p : List UInt8} (a : List UInt8) (hx : isSep x = true) (hp : noSep p) : pieces (a ++ x :: p) = pieces a ++ [p] := by
  have h := pieces_more p (a ++ [x]) (pieces a) [] hp (pieces_snoc_sep hx a)
  simpa using h
theorem pieces_one {p : List UInt8} (hp : noSep p) : pieces p = [p] := by
  have h := pieces_more p [] [] [] hp rfl
  simpa using h
theorem fig_val {n : Nat} (h : n ≤ 9) : (UInt8.ofNat (48 + n)).toNat = 48 + n := by rw [UInt8.toNat_ofNat']; omega
theorem fig_sep {n : Nat} (h : n ≤ 9) : isSep (UInt8.ofNat (48 + n)) = false := by
  rcases (by omega : n = 0 ∨ n = 1 ∨ n = 2 ∨ n = 3 ∨ n = 4 ∨ n = 5 ∨ n = 6 ∨ n = 7 ∨ n = 8 ∨ n = 9) with e | e | e | e | e | e | e | e | e | e <;> subst e <;> decide
theorem cell_sep {f : Nat → Int} (h : cellOk f = true) : noSep (cellTx f) := by
  obtain ⟨⟨a1, a2⟩, ⟨b1, b2⟩, ⟨c1, c2⟩, _⟩ := cellOk_t h
  have x := fig_sep (n := (f 1).toNat) (by omega)
  have y := fig_sep (n := (f 2).toNat) (by omega)
  intro z hz
  unfold cellTx at hz
  rw [if_pos h] at hz
  split at hz
  · simp only [figs, List.mem_singleton] at hz
    rw [hz]; exact x
  · simp only [figs, List.cons_append, List.nil_append, List.mem_cons, List.not_mem_nil, or_false] at hz
    rcases hz with e | e | e
    · rw [e]; exact x
    · rw [e]; split <;> decide
    · rw [e]; exact y
theorem noSep_59 {p : List UInt8} (h : noSep p) : p.count 59 = 0 := by
  rw [List.count_eq_zero]
  intro q
  have := h _ q
  revert this
  decide
theorem pieces_bTx {S : Nat} {f : Nat → Nat → Int} : ∀ k, (∀ i, i < k + 1 → cellOk (f i) = true) → pieces (bTx S f (k + 1)) = (List.range (k + 1)).map fun i => cellTx (f i)
  | 0, h => by
    have h0 := pieces_one (cell_sep (h 0 (by omega)))
    simpa [bTx, sepAt] using h0
  | k + 1, h => by
    have ih := pieces_bTx (S := S) (f := f) k fun i hi => h i (by omega)
    have hs : ∃ x, sepAt S (k + 1) = [x] ∧ isSep x = true := by
      unfold sepAt
      rw [if_neg (by omega)]
      split
      · exact ⟨59, rfl, by decide⟩
      · exact ⟨44, rfl, by decide⟩
    obtain ⟨x, e, hx⟩ := hs
    have h1 := pieces_app (x := x) (bTx S f (k + 1)) hx (cell_sep (h (k + 1) (by omega)))
    rw [List.range_succ, List.map_append, ← ih]
    show pieces (bTx S f (k + 1) ++ sepAt S (k + 1) ++ cellTx (f (k + 1))) = _
    rw [e, List.append_assoc]
    exact h1
theorem count_bTx {S : Nat} (h1 : 1 ≤ S) (h4 : S ≤ 4) {f : Nat → Nat → Int} (h : ∀ i, i < S * S → cellOk (f i) = true) : (bTx S f (S * S)).count 59 = S - 1 := by
  have c : ∀ i, i < S * S → (cellTx (f i)).count 59 = 0 := fun i hi => noSep_59 (cell_sep (h i hi))
  rcases (by omega : S = 1 ∨ S = 2 ∨ S = 3 ∨ S = 4) with e | e | e | e <;> subst e
  · simp [bTx, sepAt, List.count_append, c]
  · simp [bTx, sepAt, List.count_append, c]
  · simp [bTx, sepAt, List.count_append, c]
  · simp [bTx, sepAt, List.count_append, c]
theorem bTx_congr {S : Nat} {f g : Nat → Nat → Int} : ∀ k, (∀ i, i < k → f i 0 = g i 0 ∧ f i 1 = g i 1 ∧ f i 2 = g i 2) → bTx S f k = bTx S g k
  | 0, _ => rfl
  | k + 1, h => by
    have hk := h k (by omega)
    simp only [bTx]
    rw [bTx_congr k fun i hi => h i (by omega), cellTx_congr hk.1 hk.2.1 hk.2.2]
theorem blockOk_congr {s : Int} {n : Nat} {f g : Nat → Nat → Int} (h : ∀ i, i < n → f i 0 = g i 0 ∧ f i 1 = g i 1 ∧ f i 2 = g i 2) : blockOk s n f = blockOk s n g := by
  unfold blockOk cellsOk
  congr 1
  rw [Bool.eq_iff_iff, allTo_iff, allTo_iff]
  constructor
  · intro q i hi; have := h i hi; rw [← cellOk_congr this.1 this.2.1 this.2.2]; exact q i hi
  · intro q i hi; have := h i hi; rw [cellOk_congr this.1 this.2.1 this.2.2]; exact q i hi
theorem blockTx_congr {s : Int} {n : Nat} {f g : Nat → Nat → Int} (h : ∀ i, i < n → f i 0 = g i 0 ∧ f i 1 = g i 1 ∧ f i 2 = g i 2) : blockTx s n f = blockTx s n g := by
  unfold blockTx
  rw [blockOk_congr h, bTx_congr n h]
/-- a block's text says the block -/
theorem block_back {S : Nat} {f : Nat → Nat → Int} (h1 : 1 ≤ S) (h4 : S ≤ 4) (h : ∀ i, i < S * S → cellOk (f i) = true) :
    readB (blockTx S (S * S) f) = true ∧ rbS (blockTx S (S * S) f) = S ∧ rbN (blockTx S (S * S) f) = S * S ∧ ∀ i, i < S * S → ∀ j, j < 3 → bF (blockTx S (S * S) f) i j = f i j := by
  have hm : 1 ≤ S * S := by have := Nat.mul_le_mul h1 h1; omega
  have hO : blockOk (S : Int) (S * S) f = true := by
    unfold blockOk cellsOk
    rw [allTo_iff.2 h]
    have e : inB (S : Int) 1 4 = true := by unfold inB; simp; omega
    rw [e]
    simp
  obtain ⟨l, hl⟩ : ∃ l, l = blockTx (S : Int) (S * S) f := ⟨_, rfl⟩
  have hl2 : l = bTx S f (S * S) := by rw [hl]; unfold blockTx; rw [if_pos hO]; rfl
  have hp : pieces l = (List.range (S * S)).map fun i => cellTx (f i) := by
    rw [hl2]
    obtain ⟨k, hk⟩ : ∃ k, S * S = k + 1 := ⟨S * S - 1, by omega⟩
    rw [hk]
    exact pieces_bTx k fun i hi => h i (by omega)
  have hN : bN l = S * S := by unfold bN; rw [hp]; simp
  have hS : bS l = S := by unfold bS; rw [pcs_count, hl2, count_bTx h1 h4 h]; omega
  have hat : ∀ i, i < S * S → (pieces l)[i]? = some (cellTx (f i)) := fun i hi => by rw [hp]; simp [hi]
  have hF : ∀ i, i < S * S → bF l i 0 = f i 0 ∧ bF l i 1 = f i 1 ∧ bF l i 2 = f i 2 := fun i hi => by
    rw [bF_at (hat i hi), bF_at (hat i hi), bF_at (hat i hi)]
    exact (read_yes (h i hi) rfl).2
  have hA : okAll l = true := readB_all fun i hi p e => by
    rw [hN] at hi
    rw [hat i hi] at e
    cases e
    exact (read_yes (h i hi) rfl).1
  have hR : readB l = true := readB_of hA (by rw [hS, hN, blockOk_congr hF]; exact hO) (by rw [hS, hN, blockTx_congr hF]; exact hl.symm)
  rw [← hl]
  refine ⟨hR, ?_, ?_, fun i hi j hj => ?_⟩
  · unfold rbS; rw [if_pos hR, hS]
  · unfold rbN; rw [if_pos hR, hN]
  · rcases (by omega : j = 0 ∨ j = 1 ∨ j = 2) with e | e | e <;> subst e
    · exact (hF i hi).1
    · exact (hF i hi).2.1
    · exact (hF i hi).2.2
/-- with one more cell behind it is no block's -/
theorem block_more {S : Nat} {f : Nat → Nat → Int} (h1 : 1 ≤ S) (h4 : S ≤ 4) (h : ∀ i, i < S * S → cellOk (f i) = true) : readB (blockTx S (S * S) f ++ [44, 48]) = false := by
  obtain ⟨hR, hs, hn, _⟩ := block_back h1 h4 h
  obtain ⟨l, hl⟩ : ∃ l, l = blockTx (S : Int) (S * S) f := ⟨_, rfl⟩
  rw [← hl] at hR hs hn ⊢
  have hN : bN l = S * S := by unfold rbN at hn; rw [if_pos hR] at hn; exact hn
  have hS : bS l = S := by unfold rbS at hs; rw [if_pos hR] at hs; omega
  have hp := pieces_app (x := 44) (p := [48]) l (by decide) (by intro y hy; simp at hy; rw [hy]; decide)
  have hN2 : bN (l ++ [44, 48]) = S * S + 1 := by
    unfold bN at hN ⊢
    rw [hp, List.length_append, hN]
    rfl
  have hS2 : bS (l ++ [44, 48]) = S := by
    unfold bS at hS ⊢
    rw [pcs_count] at hS ⊢
    rw [List.count_append, show ([44, 48] : List UInt8).count 59 = 0 by decide]
    omega
  apply readB_no
  rw [hN2, hS2]
  unfold blockOk
  have e : (((S * S + 1 : Nat) : Int) == (S : Int) * S) = false := by
    rw [beq_eq_false_iff_ne, ← Int.natCast_mul]
    omega
  rw [e, Bool.and_false, Bool.false_and]
theorem byteI_app_l {a b : List UInt8} {i : Nat} (h : i < a.length) : byteI (a ++ b) i = byteI a i := by
  unfold byteI
  simp [List.getD, List.getElem?_append_left h]
theorem byteI_app_r {a b : List UInt8} {i : Nat} : byteI (a ++ b) (a.length + i) = byteI b i := by
  unfold byteI
  rw [List.getD, List.getD, List.getElem?_append_right (by omega), Nat.add_sub_cancel_left]
theorem spots_byte {f : Nat → Nat → Int} : ∀ n i, i < n → 0 ≤ f i 0 ∧ f i 0 ≤ 5 ∧ 0 ≤ f i 1 ∧ f i 1 ≤ 7 → byteI (spotsTx f n) (1 + 3 * i) = 48 + f i 0 ∧ byteI (spotsTx f n) (2 + 3 * i) = 97 + f i 1
  | 0, i, h, _ => by omega
  | n + 1, i, h, hb => by
    have hl := spotsTx_len f n
    rcases (by omega : i < n ∨ i = n) with q | q
    · have ih := spots_byte (f := f) n i q hb
      simp only [spotsTx]
      rw [byteI_app_l (by rw [hl]; omega), byteI_app_l (by rw [hl]; omega)]
      exact ih
    · subst q
      simp only [spotsTx]
      rw [show 1 + 3 * i = (spotsTx f i).length + 1 by rw [hl]; omega, show 2 + 3 * i = (spotsTx f i).length + 2 by rw [hl]; omega, byteI_app_r, byteI_app_r]
      have a : (UInt8.ofNat (48 + (f i 0).toNat)).toNat = 48 + (f i 0).toNat := by rw [UInt8.toNat_ofNat']; omega
      have b : (UInt8.ofNat (97 + (f i 1).toNat)).toNat = 97 + (f i 1).toNat := by rw [UInt8.toNat_ofNat']; omega
      constructor
      · show ((UInt8.ofNat (48 + (f i 0).toNat)).toNat : Int) = _
        rw [a]; omega
      · show ((UInt8.ofNat (97 + (f i 1).toNat)).toNat : Int) = _
        rw [b]; omega
theorem quiltOk_congr {W H : Int} {n : Nat} {f g : Nat → Nat → Int} (h : ∀ i, i < n → f i 0 = g i 0 ∧ f i 1 = g i 1) : quiltOk W H n f = quiltOk W H n g := by
  unfold quiltOk
  congr 1
  rw [Bool.eq_iff_iff, allTo_iff, allTo_iff]
  constructor
  · intro q i hi; have := h i hi; unfold spotOk; rw [← this.1, ← this.2]; exact q i hi
  · intro q i hi; have := h i hi; unfold spotOk; rw [this.1, this.2]; exact q i hi
theorem spotsTx_congr {f g : Nat → Nat → Int} : ∀ n, (∀ i, i < n → f i 0 = g i 0 ∧ f i 1 = g i 1) → spotsTx f n = spotsTx g n
  | 0, _ => rfl
  | n + 1, h => by
    have hn := h n (by omega)
    simp only [spotsTx, spotTx]
    rw [spotsTx_congr n fun i hi => h i (by omega), hn.1, hn.2]
/-- a quilt's text says the quilt -/
theorem quilt_back {W H : Int} {n : Nat} {f : Nat → Nat → Int} (h : quiltOk W H n f = true) :
    readQ (quiltTx W H n f) = true ∧ rW (quiltTx W H n f) = W ∧ rH (quiltTx W H n f) = H ∧ rN (quiltTx W H n f) = n ∧ (∀ i, i < n → cF (quiltTx W H n f) i 0 = f i 0 ∧ cF (quiltTx W H n f) i 1 = f i 1) ∧ (quiltTx W H n f).length = 4 + 3 * n := by
  have r := quilt_of h
  have w1 := r.w1
  have w6 := r.w6
  have h1 := r.h1
  have h6 := r.h6
  have n1 := r.n1
  have n36 := r.n36
  obtain ⟨l, hl⟩ : ∃ l, l = quiltTx W H n f := ⟨_, rfl⟩
  have hl2 : l = quiltHd W H ++ spotsTx f n := by rw [hl]; unfold quiltTx; rw [if_pos h]
  have hlen : l.length = 4 + 3 * n := by rw [hl2, List.length_append, quiltHd_len, spotsTx_len]
  have hd := quiltHd_len W H
  have eW : cW l = W := by
    unfold cW
    rw [hl2, byteI_app_l (by rw [hd]; omega)]
    show ((UInt8.ofNat (48 + W.toNat)).toNat : Int) - 48 = W
    rw [UInt8.toNat_ofNat']; omega
  have eH : cH l = H := by
    unfold cH
    rw [hl2, byteI_app_l (by rw [hd]; omega)]
    show ((UInt8.ofNat (48 + H.toNat)).toNat : Int) - 48 = H
    rw [UInt8.toNat_ofNat']; omega
  have eN : cN l = n := by unfold cN; omega
  have eF : ∀ i, i < n → cF l i 0 = f i 0 ∧ cF l i 1 = f i 1 := fun i hi => by
    have hb := spots_byte (f := f) n i hi (r.ok i hi)
    unfold cF
    rw [if_pos rfl, if_neg (by omega), hl2, show 5 + 3 * i = (quiltHd W H).length + (1 + 3 * i) by rw [hd]; omega, show 6 + 3 * i = (quiltHd W H).length + (2 + 3 * i) by rw [hd]; omega, byteI_app_r, byteI_app_r]
    omega
  have hT : quiltTx (cW l) (cH l) (cN l) (cF l) = l := by
    rw [eW, eH, eN]
    conv => rhs; rw [hl]
    unfold quiltTx
    rw [quiltOk_congr eF, spotsTx_congr n eF]
  have hR : readQ l = true := readQ_of (fun e => by rw [e, List.length_nil] at hlen; omega) hT
  rw [← hl]
  refine ⟨hR, ?_, ?_, ?_, eF, hlen⟩
  · unfold rW; rw [if_pos hR, eW]
  · unfold rH; rw [if_pos hR, eH]
  · unfold rN; rw [if_pos hR, eN]
/-- with one more byte behind it is no quilt's -/
theorem quilt_more {W H : Int} {n : Nat} {f : Nat → Nat → Int} (h : quiltOk W H n f = true) (x : UInt8) : readQ (quiltTx W H n f ++ [x]) = false := by
  have hlen := (quilt_back h).2.2.2.2.2
  have hlen2 : (quiltTx W H n f ++ [x]).length = 4 + 3 * n + 1 := by rw [List.length_append, hlen]; rfl
  obtain ⟨l, hl⟩ : ∃ l, l = quiltTx W H n f ++ [x] := ⟨_, rfl⟩
  rw [← hl] at hlen2 ⊢
  rcases (Bool.eq_false_or_eq_true (readQ l)).symm with e | e
  · exact e
  · exfalso
    obtain ⟨_, _, h3, h4⟩ := readQ_t e
    have h2 := congrArg List.length h3
    unfold quiltTx at h2
    rw [if_pos h4, List.length_append, quiltHd_len, spotsTx_len, hlen2] at h2
    omega
end Go.Proofs.YtheafiaemcmjaaaDoor
