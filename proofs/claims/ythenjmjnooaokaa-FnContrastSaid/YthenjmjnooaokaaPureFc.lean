/- Plain functions: facts of the law that the contrasts of a block do not depend on the side from which it is seen. No program in sight. -/
import Derived.Test.YthenjmjnooaokaaPureCon
namespace Go.Proofs.Ythenjmjnooaokaa
theorem gap_max (a b : Int) : gap a b = max (a - b) (b - a) := by unfold gap; omega
theorem gap_inv (a b : Int) : gap (100 - a) (100 - b) = gap a b := by unfold gap; omega
/-- the values 100 - v -/
def invV (zs : List Int) : List Int := zs.map fun z => 100 - z
theorem invV_len (zs : List Int) : (invV zs).length = zs.length := by simp [invV]
theorem invV_nth {zs : List Int} {i : Nat} (h : i < zs.length) : nth (invV zs) i = 100 - nth zs i := by
  unfold nth invV
  simp [h]
theorem okList_of {zs : List Int} (hl : zs.length = 6) (h : ∀ z ∈ zs, 0 ≤ z ∧ z ≤ 100) : okList zs 6 0 100 = true := by
  unfold okList
  have e : allIn zs 0 100 = true := by
    unfold allIn
    rw [List.all_eq_true]
    intro z hz
    have := h z hz
    unfold inB
    simp; omega
  rw [e]
  rfl
theorem okList_inv {zs : List Int} (hl : zs.length = 6) (h : ∀ z ∈ zs, 0 ≤ z ∧ z ≤ 100) : okList (invV zs) 6 0 100 = true := by
  refine okList_of (by rw [invV_len, hl]) fun z hz => ?_
  unfold invV at hz
  obtain ⟨x, hx, rfl⟩ := List.mem_map.1 hz
  have := h x hx
  omega
theorem sumC_inv {zs : List Int} (hl : zs.length = 6) {L : List (List Int)} (h : ∀ p ∈ L, isPr p) : sumC (invV zs) L = sumC zs L := by
  rw [sumC_G, sumC_G]
  induction L with
  | nil => rfl
  | cons p L ih =>
    simp only [sumG]
    rw [ih fun q hq => h q (by simp [hq])]
    obtain ⟨a, b, rfl, h1, h2, h3, h4⟩ := h p (by simp)
    have e0 : nth [a, b] 0 = a := rfl
    have e1 : nth [a, b] 1 = b := rfl
    rw [e0, e1, invV_nth (by omega), invV_nth (by omega), gap_inv]
theorem least_sum {zs : List Int} {L : List (List Int)} : leastC zs L ≤ sumC zs L := by
  have key : ∀ (L : List (List Int)) (x y : Int), x ≤ y → 0 ≤ y → L.foldl (lessC zs) x ≤ L.foldl (fun a p => a + gapOf zs p) y := by
    intro L
    induction L with
    | nil => intro x y h _; exact h
    | cons p L ih =>
      intro x y h hy
      have hg := gap_nn (nth zs (nth p 0).toNat) (nth zs (nth p 1).toNat)
      refine ih (lessC zs x p) (y + gapOf zs p) ?_ (by unfold gapOf; omega)
      unfold lessC gapOf
      split <;> omega
  exact key L (-1) 0 (by omega) (by omega)
theorem colorAt_plain (a : Int) (h0 : 0 ≤ a) (h5 : a ≤ 5) (s : Int) (h1 : 0 ≤ s) (h2 : s ≤ 3) {c : Nat → Int} (hc : c 0 = 0 ∧ c 1 = a ∧ c 2 = a) : colorAt c s = a := by
  have hO : cellOk c = true := by rw [ok_iff]; omega
  obtain ⟨a0, a2, a1, a3⟩ := colorAt_w hO
  rcases (by omega : s = 0 ∨ s = 1 ∨ s = 2 ∨ s = 3) with e | e | e | e <;> subst e
  · rw [a0]; exact hc.2.1
  · rw [a1]; split <;> omega
  · rw [a2]; exact hc.2.2
  · rw [a3]; split <;> omega
theorem sum_plain (zs : List Int) (s : Nat) (h1 : 1 ≤ s) (h4 : s ≤ 4) (f : Nat → Nat → Int) (hf : ∀ k, f k 0 = 0 ∧ f k 1 = 2 ∧ f k 2 = 2) : sumC zs (prs s f s) = 0 := by
  rw [sumC_G]
  have g0 : ∀ a : Int, gap a a = 0 := fun a => by unfold gap; omega
  have c0 : ∀ k, colorAt (f k) 0 = 2 := fun k => colorAt_plain 2 (by omega) (by omega) 0 (by omega) (by omega) (hf k)
  have c1 : ∀ k, colorAt (f k) 1 = 2 := fun k => colorAt_plain 2 (by omega) (by omega) 1 (by omega) (by omega) (hf k)
  have c2 : ∀ k, colorAt (f k) 2 = 2 := fun k => colorAt_plain 2 (by omega) (by omega) 2 (by omega) (by omega) (hf k)
  have c3 : ∀ k, colorAt (f k) 3 = 2 := fun k => colorAt_plain 2 (by omega) (by omega) 3 (by omega) (by omega) (hf k)
  have f1 : ∀ k, f k 1 = 2 := fun k => (hf k).2.1
  have f2 : ∀ k, f k 2 = 2 := fun k => (hf k).2.2
  have hrow : ∀ y x, sumG (fun a b => gap (nth zs a.toNat) (nth zs b.toNat)) (prsAt s f y x) = 0 := by
    intro y x
    rw [sum_row]
    simp only [c0, c1, c2, c3, f1, f2, g0]
    split <;> split <;> rfl
  have hr : ∀ y x, sumG (fun a b => gap (nth zs a.toNat) (nth zs b.toNat)) (prsRow s f y x) = 0 := by
    intro y x
    induction x with
    | zero => rfl
    | succ x ih => simp only [prsRow, sumG_app, ih, hrow]; rfl
  have hp : ∀ y, sumG (fun a b => gap (nth zs a.toNat) (nth zs b.toNat)) (prs s f y) = 0 := by
    intro y
    induction y with
    | zero => rfl
    | succ y ih => simp only [prs, sumG_app, ih, hr]; rfl
  exact hp s
theorem edge_turn (c e : Nat → Int) (zs : List Int) (n : Nat) : edgeC (turnC c) (turnC e) false zs n = edgeC c e true zs n := by
  unfold edgeC
  rw [turn_ok, turn_ok]
  simp only [if_true, Bool.false_eq_true, if_false]
  rw [(turn_at c).2.2.2, (turn_at e).2.1]
theorem edge_bd {c e : Nat → Int} {zs : List Int} (hc : cellOk c = true) (he : cellOk e = true) (hl : zs.length = 6) (h : ∀ z ∈ zs, 0 ≤ z ∧ z ≤ 100) : 0 ≤ edgeC c e true zs 6 ∧ edgeC c e true zs 6 ≤ 100 := by
  have hk := okList_of hl h
  have hb := okList_t hk hl
  unfold edgeC
  rw [hc, he, hk]
  have b1 := colorAt_bd hc (side := 2) (by decide)
  have b2 := colorAt_bd he (side := 0) (by decide)
  exact gap_bd (hb.2 _ (by simp; omega)) (hb.2 _ (by simp; omega))
theorem inner_max {c : Nat → Int} {zs : List Int} (hc : cellOk c = true) (hl : zs.length = 6) (h : ∀ z ∈ zs, 0 ≤ z ∧ z ≤ 100) : innerC c zs 6 = max (nth zs (c 1).toNat - nth zs (c 2).toNat) (nth zs (c 2).toNat - nth zs (c 1).toNat) := by
  unfold innerC
  rw [hc, okList_of hl h]
  exact gap_max _ _
theorem blockOk_of {s : Nat} {f : Nat → Nat → Int} (h1 : 1 ≤ s) (h4 : s ≤ 4) (h : ∀ k, k < s * s → cellOk (f k) = true) : blockOk s (s * s) f = true := by
  unfold blockOk cellsOk
  rw [show inB (s : Int) 1 4 = true by unfold inB; simp; omega, show (((s * s : Nat) : Int) == (s : Int) * s) = true by simp, allTo_iff.2 h]
  rfl
/-- what the law says of a block with good cells -/
structure SaysC (s : Nat) (f d p : Nat → Nat → Int) (zs : List Int) : Prop where
  n0 : 0 ≤ blockC s (s * s) f zs 6
  m0 : 0 ≤ blockL s (s * s) f zs 6
  nd : blockC s (s * s) d zs 6 = blockC s (s * s) f zs 6
  md : blockL s (s * s) d zs 6 = blockL s (s * s) f zs 6
  nw : blockC s (s * s) f (invV zs) 6 = blockC s (s * s) f zs 6
  m1 : blockL s (s * s) f zs 6 ≤ 100
  mn : blockL s (s * s) f zs 6 ≤ blockC s (s * s) f zs 6
  pl : blockC s (s * s) p zs 6 = 0
theorem saysC {s : Nat} {f d p : Nat → Nat → Int} {zs : List Int} (h1 : 1 ≤ s) (h4 : s ≤ 4) (hf : ∀ k, k < s * s → cellOk (f k) = true) (hd : ∀ k, k < s * s → cellOk (d k) = true) (hS : SameC s d f) (hp : ∀ k, p k 0 = 0 ∧ p k 1 = 2 ∧ p k 2 = 2) (hl : zs.length = 6) (h : ∀ z ∈ zs, 0 ≤ z ∧ z ≤ 100) : SaysC s f d p zs := by
  have hk := okList_of hl h
  have hb := okList_t hk hl
  have kf := blockOk_of h1 h4 hf
  have kd := blockOk_of h1 h4 hd
  have kp := blockOk_of (f := p) h1 h4 fun k _ => by rw [ok_iff]; have := hp k; omega
  have ki := okList_inv hl h
  have hpr := isPrs hf s (Nat.le_refl _)
  have sb := sumC_bd hb.2 hpr
  have lb := leastC_bd hb.2 hpr
  have ls := least_sum (zs := zs) (L := prs s f s)
  have eC : blockC s (s * s) f zs 6 = sumC zs (prs s f s) := by unfold blockC; rw [kf, hk, Int.toNat_natCast]; rfl
  have eD : blockC s (s * s) d zs 6 = sumC zs (prs s d s) := by unfold blockC; rw [kd, hk, Int.toNat_natCast]; rfl
  have eP : blockC s (s * s) p zs 6 = sumC zs (prs s p s) := by unfold blockC; rw [kp, hk, Int.toNat_natCast]; rfl
  have eI : blockC s (s * s) f (invV zs) 6 = sumC (invV zs) (prs s f s) := by unfold blockC; rw [kf, ki, Int.toNat_natCast]; rfl
  have eL : blockL s (s * s) f zs 6 = max 0 (leastC zs (prs s f s)) := by unfold blockL; rw [kf, hk, Int.toNat_natCast]; rfl
  have eM : blockL s (s * s) d zs 6 = max 0 (leastC zs (prs s d s)) := by unfold blockL; rw [kd, hk, Int.toNat_natCast]; rfl
  have q1 := sum_eq (zs := zs) hS
  have q2 := least_eq (zs := zs) hS
  have q3 := sumC_inv hl hpr
  have q4 := sum_plain zs s h1 h4 p hp
  exact ⟨by omega, by omega, by omega, by omega, by omega, by omega, by omega, by omega⟩
end Go.Proofs.Ythenjmjnooaokaa
