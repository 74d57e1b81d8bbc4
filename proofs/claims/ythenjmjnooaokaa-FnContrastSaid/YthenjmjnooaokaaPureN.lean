/- Plain functions on plans: who has sent to whom. No program in sight. -/
import Derived.Test.YthenjmjnooaokaaPureK
namespace Go.Proofs.Ythenjmjnooaokaa
/-- whether i sends to k in one of the first j rounds -/
def sent (z : Nat → List Int) (i : Nat) (k : Int) : Nat → Bool
  | 0 => false
  | j + 1 => sent z i k j || (nth (z j) i == k)
theorem sent_up {z : Nat → List Int} {i : Nat} {k : Int} {j l : Nat} (h : j < l) (e : (nth (z j) i == k) = true) : sent z i k l = true := by
  induction h with
  | refl => show (sent z i k j || (nth (z j) i == k)) = true; rw [e, Bool.or_true]
  | step _ ih => rename_i m _; show (sent z i k m || (nth (z m) i == k)) = true; rw [ih, Bool.true_or]
/-- how often i sends to k in the d rounds from f on -/
def sentN (z : Nat → List Int) (i : Nat) (k : Int) (f : Nat) : Nat → Int
  | 0 => 0
  | d + 1 => sentN z i k f d + (if (nth (z (f + d)) i == k) = true then 1 else 0)
theorem sentN_bd (z : Nat → List Int) (i : Nat) (k : Int) (f d : Nat) : 0 ≤ sentN z i k f d ∧ sentN z i k f d ≤ d := by
  induction d with
  | zero => simp [sentN]
  | succ d ih => simp only [sentN]; split <;> omega
theorem sentN_pos (z : Nat → List Int) (i : Nat) (k : Int) (d : Nat) : decide (0 < sentN z i k 0 d) = sent z i k d := by
  induction d with
  | zero => rfl
  | succ d ih =>
    have hb := sentN_bd z i k 0 d
    simp only [sentN, sent, Nat.zero_add]
    rw [← ih]
    rcases Bool.eq_false_or_eq_true (nth (z d) i == k) with e | e
    · rw [e, if_pos rfl, Bool.or_true, decide_eq_true (by omega)]
    · rw [e, if_neg (by simp), Bool.or_false, Int.add_zero]
end Go.Proofs.Ythenjmjnooaokaa
