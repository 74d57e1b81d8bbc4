/- Plain facts for the law of threads, gathered as the walk wants them. -/
import Derived.Test.YtkgabnhfjmldbaaPureFt
import Derived.Test.YtkgabnhfjmldbaaAppL
namespace Go.Proofs.Ytkgabnhfjmldbaa
open Eu
theorem lines_ok {N l : Nat} {f : Nat → Nat → Int} (h1 : 1 ≤ N) (h10 : N ≤ 10) (hl : l ≤ 20) (hin : inN N f l) : linesOk (N : Int) l f = true := by
  unfold linesOk
  rw [Bool.and_eq_true, Bool.and_eq_true]
  refine ⟨⟨?_, decide_eq_true hl⟩, ?_⟩
  · unfold inB; simp; omega
  · refine allTo_iff.2 fun k hk => ?_
    have := hin k hk
    unfold lineOk inB
    simp
    omega
theorem odd_evenF {N : Nat} {f : Nat → Nat → Int} {l : Nat} (hin : inN N f l) : cnt (isOdd f l) N % 2 = 0 := by
  have h0 : ∀ n, cnt (fun _ => false) n = 0 := by intro n; induction n with
    | zero => rfl
    | succ n ih => simp [cnt, ih]
  have key : ∀ k, cnt (fun i => isOdd f l i && decide (part_ f l i < k)) N % 2 = 0 := by
    intro k
    induction k with
    | zero =>
      have h1 := cnt_mono (p := fun i => isOdd f l i && decide (part_ f l i < 0)) (q := fun _ => false) (n := N) fun i _ e => by simp at e
      rw [h0] at h1
      omega
    | succ k ih =>
      rw [cnt_split]
      have h2 : cnt (fun i => isOdd f l i && part_ f l i == k) N = oddIn N f l k := rfl
      rw [h2]
      have := (oddIn_lin hin k).1
      omega
  have h1 := key N
  have h2 : cnt (isOdd f l) N ≤ cnt (fun i => isOdd f l i && decide (part_ f l i < N)) N := cnt_mono fun i hi e => by
    have := part_le f l i
    rw [e, decide_eq_true (show part_ f l i < N by omega)]
    rfl
  have h3 : cnt (fun i => isOdd f l i && decide (part_ f l i < N)) N ≤ cnt (isOdd f l) N := cnt_mono fun i _ e => (Bool.and_eq_true_iff.1 e).1
  omega
structure ThF (N l : Nat) (f : Nat → Nat → Int) (T O H : Nat) : Prop where
  ok : linesOk (N : Int) l f = true
  thr : threads (N : Int) l f = T
  od : oddPts (N : Int) l f = odds N f l
  odl : (odds N f l).length = O
  hd : (heads N f l).length = H
  th : thrTo N f l N = T
  le : T ≤ l
  even : O % 2 = 0
  two : O ≤ 2 * T
  none : l = 0 → T = 0 ∧ O = 0 ∧ H = 0
  some_ : 0 < l → 0 < T ∧ 0 < H
  joined : H = 1 → T = max 1 (O / 2)
  one : T = 1 → H = 1 ∧ (O = 0 ∨ O = 2)
theorem thF {N l : Nat} {f : Nat → Nat → Int} (h1 : 1 ≤ N) (h10 : N ≤ 10) (hl : l ≤ 20) (hin : inN N f l) : ThF N l f (thrTo N f l N) (cnt (isOdd f l) N) (cnt (isHead f l) N) where
  ok := lines_ok h1 h10 hl hin
  thr := by unfold threads; rw [if_pos (lines_ok h1 h10 hl hin), Int.toNat_natCast]
  od := by unfold oddPts; rw [if_pos (lines_ok h1 h10 hl hin), Int.toNat_natCast]
  odl := membs_cnt _ _
  hd := membs_cnt _ _
  th := rfl
  le := thr_le hin
  even := odd_evenF hin
  two := odd_thr hin
  none := fun h => by
    subst h
    have := thr_empty N f
    omega
  some_ := fun h => ⟨(thr_pos hin h).2, (thr_pos hin h).1⟩
  joined := fun h => thr_joined hin h
  one := fun h => thr_is_one hin h
theorem walkL_in {N : Nat} : ∀ (l : Nat) (f : Nat → Nat → Int) (v : Nat), inN N f l → v < N → canGo N f l v = true → ∀ x ∈ walkL N l f v, 0 ≤ x ∧ x < N
  | 0, f, v, _, _, _ => fun x hx => by simp [walkL] at hx
  | l + 1, f, v, hin, hv, hg => fun x hx => by
    obtain ⟨t, k, hb, ht, hk, hN⟩ := best_next hin hv (by omega) hg
    have ih := walkL_in l (rem f k) t (inN_rem hin hk) ht (next_go hN)
    rw [walkL_next hb (by omega)] at hx
    rcases List.mem_cons.1 hx with rfl | q
    · omega
    · exact ih x q
structure OneF (N l : Nat) (f : Nat → Nat → Int) (O v : Nat) (z : Int) : Prop where
  v_ : v < N
  z0 : 0 ≤ z
  z1 : z < N
  len : (oneW (N : Int) l f).length = l + 1
  first : nth (oneW (N : Int) l f) 0 = (v : Int)
  last : nth (oneW (N : Int) l f) l = z
  walks : Walks l f (oneW (N : Int) l f)
  in_ : ∀ x ∈ oneW (N : Int) l f, 0 ≤ x ∧ x < N
  trail : Trail l (edges f l) v z
  closed : O = 0 → z = v
  open_ : O = 2 → nth (odds N f l) 0 = (v : Int) ∧ nth (odds N f l) 1 = z ∧ z ≠ v
theorem oneF {N l : Nat} {f : Nat → Nat → Int} (h1 : 1 ≤ N) (h10 : N ≤ 10) (hl : l ≤ 20) (hin : inN N f l) (hT : thrTo N f l N = 1) : oneTh (N : Int) l f = true ∧ ∃ v z, OneF N l f (cnt (isOdd f l) N) v z := by
  have ht : oneTh (N : Int) l f = true := by unfold oneTh; rw [(thF h1 h10 hl hin).thr, hT]; rfl
  refine ⟨ht, ?_⟩
  obtain ⟨v, hv, hst, hg, _⟩ := start_go hin hT
  obtain ⟨v', _, hst', hta, hc, ho, z0, z1⟩ := walk_ends hin hT
  obtain rfl : v = v' := by omega
  have hw : oneW (N : Int) l f = (v : Int) :: walkL N l f v := by unfold oneW; rw [if_pos ht, Int.toNat_natCast, hst, Int.toNat_natCast]
  refine ⟨v, lastOf v (walkL N l f v), hv, z0, z1, ?_, ?_, ?_, ?_, ?_, hta, hc, ho⟩
  · rw [hw, List.length_cons, walkL_len]
  · rw [hw]; rfl
  · rw [hw]
    have := nth_lastOf (v : Int) (walkL N l f v)
    rw [walkL_len] at this
    exact this
  · rw [hw]; exact walkL_walks l f v hin hv hg
  · rw [hw]
    intro x hx
    rcases List.mem_cons.1 hx with rfl | q
    · omega
    · exact walkL_in l f v hin hv hg x q
/-- the line that closes the walk -/
def closeF (f : Nat → Nat → Int) (l : Nat) (a b : Int) : Nat → Nat → Int := catS f l (fun _ j => if j = 0 then a else b)
theorem close_facts {N l v : Nat} {f : Nat → Nat → Int} {z : Int} (h1 : 1 ≤ N) (h10 : N ≤ 10) (hl : l + 1 ≤ 20) (hin : inN N f l) (h : OneF N l f 2 v z) (hne : z ≠ v) :
    inN N (closeF f l v z) (l + 1) ∧ oneTh (N : Int) (l + 1) (closeF f l v z) = true ∧ (odds N (closeF f l v z) (l + 1)).length = 0 ∧ oddPts (N : Int) (l + 1) (closeF f l v z) = odds N (closeF f l v z) (l + 1) ∧
      (oneW (N : Int) (l + 1) (closeF f l v z)).length = l + 2 ∧ nth (oneW (N : Int) (l + 1) (closeF f l v z)) 0 = nth (oneW (N : Int) (l + 1) (closeF f l v z)) (l + 1) := by
  have hv := h.v_
  obtain ⟨hin2, hT, hO⟩ := closed_more (g := closeF f l v z) (a := (v : Int)) (b := z) hin h.trail (by omega) ⟨h.z0, h.z1⟩ (fun e => hne e.symm)
    (fun i hi => by unfold closeF catS; rw [if_pos hi]; exact ⟨rfl, rfl⟩) (by unfold closeF catS; rw [if_neg (by omega)]; rfl) (by unfold closeF catS; rw [if_neg (by omega)]; rfl)
  obtain ⟨ht, v2, z2, h2⟩ := oneF h1 h10 hl hin2 hT
  refine ⟨hin2, ht, ?_, (thF h1 h10 hl hin2).od, h2.len, ?_⟩
  · rw [(thF h1 h10 hl hin2).odl, hO]
  · rw [h2.first, h2.last, h2.closed hO]
end Go.Proofs.Ytkgabnhfjmldbaa
