/- Plain functions on pairs of blocks: how alike they are. No program in sight. -/
import Derived.Test.YthenjmjnooaokaaPureBl
namespace Go.Proofs.Ythenjmjnooaokaa
def pairOk (s : Int) (n : Nat) (f : Nat → Nat → Int) (s2 : Int) (n2 : Nat) (g : Nat → Nat → Int) : Bool := blockOk s n f && blockOk s2 n2 g && (s == s2)
def likeSum (f g : Nat → Nat → Int) : Nat → Int
  | 0 => 0
  | k + 1 => likeSum f g k + cellLike (f k) (g k)
theorem cellLike_bd (f g : Nat → Int) : 0 ≤ cellLike f g ∧ cellLike f g ≤ 4 := by
  unfold cellLike
  split
  · exact likeTo_bd f g 4
  · omega
theorem likeSum_bd (f g : Nat → Nat → Int) (k : Nat) : 0 ≤ likeSum f g k ∧ likeSum f g k ≤ 4 * k := by
  induction k with
  | zero => simp [likeSum]
  | succ k ih => have := cellLike_bd (f k) (g k); simp only [likeSum]; omega
def likeness (s : Int) (n : Nat) (f : Nat → Nat → Int) (s2 : Int) (n2 : Nat) (g : Nat → Nat → Int) : Int := if pairOk s n f s2 n2 g then likeSum f g n else 0
theorem pair_of {s s2 : Int} {n n2 : Nat} {f g : Nat → Nat → Int} (h : pairOk s n f s2 n2 g = true) : Block s n f ∧ Block s2 n2 g ∧ s2 = s ∧ n2 = n := by
  unfold pairOk at h
  have h1 := Bool.and_eq_true_iff.1 h
  have h2 := Bool.and_eq_true_iff.1 h1.1
  have b1 := block_of h2.1
  have b2 := block_of h2.2
  have e := beq_iff_eq.1 h1.2
  subst e
  refine ⟨b1, b2, rfl, ?_⟩
  have h3 := b1.sq
  have h4 := b2.sq
  omega
end Go.Proofs.Ythenjmjnooaokaa
