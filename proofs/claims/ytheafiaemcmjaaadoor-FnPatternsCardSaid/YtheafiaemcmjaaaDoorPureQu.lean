/- Plain functions on the texts of quilts. No program in sight. -/
import Derived.Test.YtheafiaemcmjaaaDoorPureTx
import Derived.Test.YtheafiaemcmjaaaDoorPureJ
namespace Go.Proofs.YtheafiaemcmjaaaDoor
def spotOk (q : Nat → Int) : Bool := inB (q 0) 0 5 && inB (q 1) 0 7
def quiltOk (W H : Int) (n : Nat) (f : Nat → Nat → Int) : Bool := inB W 1 6 && inB H 1 6 && decide ((n : Int) = W * H) && allTo (fun k => spotOk (f k)) n
def spotTx (q : Nat → Int) : List UInt8 := [32] ++ figs (q 0).toNat ++ [UInt8.ofNat (97 + (q 1).toNat)]
def spotsTx (f : Nat → Nat → Int) : Nat → List UInt8
  | 0 => []
  | k + 1 => spotsTx f k ++ spotTx (f k)
def quiltHd (W H : Int) : List UInt8 := figs W.toNat ++ [120] ++ figs H.toNat ++ [58]
def quiltTx (W H : Int) (n : Nat) (f : Nat → Nat → Int) : List UInt8 := if quiltOk W H n f then quiltHd W H ++ spotsTx f n else []
theorem spotTx_len (q : Nat → Int) : (spotTx q).length = 3 := by simp [spotTx, figs]
theorem spotsTx_len (f : Nat → Nat → Int) (n : Nat) : (spotsTx f n).length = 3 * n := by
  induction n with
  | zero => rfl
  | succ n ih => simp only [spotsTx, List.length_append, ih, spotTx_len]; omega
theorem quiltHd_len (W H : Int) : (quiltHd W H).length = 4 := by simp [quiltHd, figs]
structure QuiltR (W H : Int) (n : Nat) (f : Nat → Nat → Int) : Prop where
  w1 : 1 ≤ W
  w6 : W ≤ 6
  h1 : 1 ≤ H
  h6 : H ≤ 6
  n0 : (n : Int) = W * H
  n1 : 1 ≤ n
  n36 : n ≤ 36
  ok : ∀ k, k < n → 0 ≤ f k 0 ∧ f k 0 ≤ 5 ∧ 0 ≤ f k 1 ∧ f k 1 ≤ 7
theorem mul36 {W H : Int} (h1 : 1 ≤ W) (h2 : W ≤ 6) (h3 : 1 ≤ H) (h4 : H ≤ 6) : 1 ≤ W * H ∧ W * H ≤ 36 := by
  rcases (by omega : W = 1 ∨ W = 2 ∨ W = 3 ∨ W = 4 ∨ W = 5 ∨ W = 6) with h | h | h | h | h | h <;> subst h <;> omega
theorem quilt_of {W H : Int} {n : Nat} {f : Nat → Nat → Int} (h : quiltOk W H n f = true) : QuiltR W H n f := by
  unfold quiltOk at h
  have h1 := Bool.and_eq_true_iff.1 h
  have h2 := Bool.and_eq_true_iff.1 h1.1
  have h3 := Bool.and_eq_true_iff.1 h2.1
  have a := inB_t h3.1
  have b := inB_t h3.2
  have e := of_decide_eq_true h2.2
  have m := mul36 a.1 a.2 b.1 b.2
  refine ⟨a.1, a.2, b.1, b.2, e, by omega, by omega, fun k hk => ?_⟩
  have c := allTo_iff.1 h1.2 k hk
  unfold spotOk at c
  have d := Bool.and_eq_true_iff.1 c
  have d1 := inB_t d.1
  have d2 := inB_t d.2
  omega
theorem quilt_no {W H : Int} {n k : Nat} {f : Nat → Nat → Int} (h : k < n) (e : spotOk (f k) = false) : quiltOk W H n f = false := by
  unfold quiltOk
  rw [allTo_no (p := fun k => spotOk (f k)) h e, Bool.and_false]
theorem quiltTx_no {W H : Int} {n : Nat} {f : Nat → Nat → Int} (h : quiltOk W H n f = false) : quiltTx W H n f = [] := by unfold quiltTx; rw [h]; rfl
end Go.Proofs.YtheafiaemcmjaaaDoor
