/- Plain functions on layouts: whether one is valid, the length of its seams, its thread. No program in sight. -/
import Derived.Test.YthenjmjnooaokaaPureTile
import Derived.Test.YthenjmjnooaokaaPureY
namespace Go.Proofs.Ythenjmjnooaokaa
def patchOk (W H : Int) (p : Nat → Int) : Bool := inB (p 0) 0 (W - 1) && inB (p 1) 0 (H - 1) && inB (p 2) 1 (W - p 0) && inB (p 3) 1 (H - p 1) && inB (p 4) 0 5
def patchesOk (W H : Int) (f : Nat → Nat → Int) (n : Nat) : Bool := allTo (fun k => patchOk W H (f k)) n
def tileX (f : Nat → Nat → Int) (W n y : Nat) : Bool := allTo (fun x => coverN f x y n == 1) W
def tileY (f : Nat → Nat → Int) (W H n : Nat) : Bool := allTo (fun y => tileX f W n y) H
def layoutOk (W H : Int) (n : Nat) (f : Nat → Nat → Int) : Bool := inB W 1 12 && inB H 1 12 && inB n 1 12 && patchesOk W H f n && tileY f W.toNat H.toNat n
def freeOf (f : Nat → Nat → Int) (k : Nat) : Bool := allTo (fun i => !overlap f k i) k
def partsS (W H : Int) (f : Nat → Nat → Int) (n : Nat) : Bool := allTo (fun k => patchOk W H (f k) && freeOf f k) n
theorem patchOk_t {W H : Int} {p : Nat → Int} (h : patchOk W H p = true) : (0 ≤ p 0 ∧ p 0 ≤ W - 1) ∧ (0 ≤ p 1 ∧ p 1 ≤ H - 1) ∧ (1 ≤ p 2 ∧ p 2 ≤ W - p 0) ∧ (1 ≤ p 3 ∧ p 3 ≤ H - p 1) ∧ (0 ≤ p 4 ∧ p 4 ≤ 5) := by
  unfold patchOk at h
  simp only [Bool.and_eq_true] at h
  exact ⟨inB_t h.1.1.1.1, inB_t h.1.1.1.2, inB_t h.1.1.2, inB_t h.1.2, inB_t h.2⟩
theorem within_of {W H n : Nat} {f : Nat → Nat → Int} (h : patchesOk W H f n = true) : Within f W H n := by
  intro k hk
  have := patchOk_t (allTo_iff.1 h k hk)
  omega
theorem layout_s (W H : Int) (n : Nat) (f : Nat → Nat → Int) : layoutOk W H n f = (inB W 1 12 && inB H 1 12 && inB n 1 12 && partsS W H f n && (areaTo f n == W * H)) := by
  unfold layoutOk
  rcases Bool.eq_false_or_eq_true (inB W 1 12) with hW | hW
  · rcases Bool.eq_false_or_eq_true (inB H 1 12) with hH | hH
    · rw [hW, hH]
      have h1 := inB_t hW
      have h2 := inB_t hH
      obtain ⟨w, rfl⟩ : ∃ w : Nat, W = w := ⟨W.toNat, by omega⟩
      obtain ⟨h, rfl⟩ : ∃ h : Nat, H = h := ⟨H.toNat, by omega⟩
      rw [Int.toNat_natCast, Int.toNat_natCast]
      rcases Bool.eq_false_or_eq_true (patchesOk w h f n) with hP | hP
      · have hw := within_of hP
        have ht := tiled_iff hw
        have e1 : tileY f w h n = true ↔ tiled f w h n := by
          unfold tileY tileX
          rw [allTo_iff]
          unfold tiled
          refine forall_congr' fun y => forall_congr' fun _ => ?_
          rw [allTo_iff]
          refine forall_congr' fun x => forall_congr' fun _ => ?_
          rw [beq_iff_eq]
        have e2 : partsS w h f n = true ↔ ∀ k, k < n → ∀ i, i < k → overlap f k i = false := by
          unfold partsS freeOf
          rw [allTo_iff]
          refine forall_congr' fun k => forall_congr' fun hk => ?_
          rw [Bool.and_eq_true, allTo_iff]
          constructor
          · rintro ⟨_, h2⟩ i hi
            simpa using h2 i hi
          · intro h2
            exact ⟨allTo_iff.1 hP k hk, fun i hi => by simpa using h2 i hi⟩
        have e3 : tileY f w h n = (partsS w h f n && (areaTo f n == (w : Int) * h)) := by
          rw [Bool.eq_iff_iff, e1, ht, Bool.and_eq_true, e2, beq_iff_eq]
        rw [hP, e3, Bool.and_true]
        cases inB (n : Int) 1 12 <;> simp
      · have e2 : partsS w h f n = false := by
          rcases Bool.eq_false_or_eq_true (partsS w h f n) with q | q
          · have : patchesOk w h f n = true := allTo_iff.2 fun k hk => (Bool.and_eq_true_iff.1 (allTo_iff.1 q k hk)).1
            rw [this] at hP; cases hP
          · exact q
        rw [hP, e2]
        simp
    · rw [hH]; simp
  · rw [hW]; simp
theorem patches_no {W H : Int} {n k : Nat} {f : Nat → Nat → Int} (hk : k < n) (e : patchOk W H (f k) = false) : layoutOk W H n f = false := by
  unfold layoutOk patchesOk
  rw [allTo_no (p := fun k => patchOk W H (f k)) hk e, Bool.and_false, Bool.false_and]
theorem tile_no {W H n x y : Nat} {f : Nat → Nat → Int} (hx : x < W) (hy : y < H) (e : (coverN f x y n == 1) = false) : layoutOk W H n f = false := by
  unfold layoutOk tileY
  rw [Int.toNat_natCast, Int.toNat_natCast, allTo_no (p := fun y => tileX f W n y) hy (allTo_no (p := fun x => coverN f x y n == 1) hx e), Bool.and_false]
theorem parts_no {W H : Int} {n k : Nat} {f : Nat → Nat → Int} (hk : k < n) (e : (patchOk W H (f k) && freeOf f k) = false) : layoutOk W H n f = false := by
  rw [layout_s]
  unfold partsS
  rw [allTo_no (p := fun k => patchOk W H (f k) && freeOf f k) hk e, Bool.and_false, Bool.false_and]
/-- what holds of a layout -/
structure Layout (W H : Int) (n : Nat) (f : Nat → Nat → Int) : Prop where
  w : 1 ≤ W ∧ W ≤ 12
  h : 1 ≤ H ∧ H ≤ 12
  n12 : 1 ≤ n ∧ n ≤ 12
  ok : ∀ k, k < n → patchOk W H (f k) = true
theorem layout_of {W H : Int} {n : Nat} {f : Nat → Nat → Int} (h : layoutOk W H n f = true) : Layout W H n f := by
  unfold layoutOk at h
  simp only [Bool.and_eq_true] at h
  have hn := inB_t h.1.1.2
  exact ⟨inB_t h.1.1.1.1, inB_t h.1.1.1.2, by omega, fun k hk => allTo_iff.1 h.1.2 k hk⟩
def sidesTo (f : Nat → Nat → Int) : Nat → Int
  | 0 => 0
  | k + 1 => sidesTo f k + (f k 2 + f k 3)
theorem sidesTo_bd {W H : Int} {n : Nat} {f : Nat → Nat → Int} (h : Layout W H n f) : ∀ k, k ≤ n → 0 ≤ sidesTo f k ∧ sidesTo f k ≤ 24 * k := by
  intro k
  induction k with
  | zero => intro _; simp [sidesTo]
  | succ k ih =>
    intro hk
    have h1 := ih (by omega)
    have h2 := patchOk_t (h.ok k (by omega))
    have h3 := h.w
    have h4 := h.h
    simp only [sidesTo]
    omega
def seam (W H : Int) (n : Nat) (f : Nat → Nat → Int) : Int := if layoutOk W H n f then sidesTo f n - W - H else -1
theorem seam_bd (W H : Int) (n : Nat) (f : Nat → Nat → Int) : -24 ≤ seam W H n f ∧ seam W H n f ≤ 288 := by
  unfold seam
  split
  · rename_i h
    have hL := layout_of h
    have h1 := sidesTo_bd hL n (Nat.le_refl _)
    have h2 := hL.w
    have h3 := hL.h
    have h4 := hL.n12
    omega
  · omega
def layoutThread (W H : Int) (n : Nat) (f : Nat → Nat → Int) (c : Int) : Int := if decide (seam W H n f < 0) || !inB c 1 40 then -1 else threadFor (seam W H n f * c)
theorem patch_area {p : Nat → Int} (h2 : 1 ≤ p 2 ∧ p 2 ≤ 12) (h3 : 1 ≤ p 3 ∧ p 3 ≤ 12) : 1 ≤ p 2 * p 3 ∧ p 2 * p 3 ≤ 144 := by
  constructor
  · have : (1 : Int) * 1 ≤ p 2 * p 3 := Int.mul_le_mul h2.1 h3.1 (by omega) (by omega)
    omega
  · have : p 2 * p 3 ≤ (12 : Int) * 12 := Int.mul_le_mul h2.2 h3.2 (by omega) (by omega)
    omega
theorem areaTo_bd {W H : Int} {f : Nat → Nat → Int} (hw : W ≤ 12) (hh : H ≤ 12) : ∀ k, (∀ i, i < k → patchOk W H (f i) = true) → 0 ≤ areaTo f k ∧ areaTo f k ≤ 144 * k := by
  intro k
  induction k with
  | zero => intro _; simp [areaTo]
  | succ k ih =>
    intro h
    have h1 := ih fun i hi => h i (by omega)
    have h2 := patchOk_t (h k (by omega))
    have h3 := patch_area (p := f k) (by omega : 1 ≤ f k 2 ∧ f k 2 ≤ 12) (by omega : 1 ≤ f k 3 ∧ f k 3 ≤ 12)
    simp only [areaTo]
    omega
end Go.Proofs.Ythenjmjnooaokaa
