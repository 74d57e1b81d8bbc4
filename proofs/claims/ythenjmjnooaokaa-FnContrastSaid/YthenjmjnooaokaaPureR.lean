/- Plain functions on plans: how often somebody sends again. No program in sight. -/
import Derived.Test.YthenjmjnooaokaaPureN
namespace Go.Proofs.Ythenjmjnooaokaa
def again (z : Nat → List Int) (r i : Nat) : Bool := !((i : Int) == nth (z r) i) && sent z i (nth (z r) i) r
def repIn (z : Nat → List Int) (r : Nat) : Nat → Int
  | 0 => 0
  | i + 1 => repIn z r i + (if again z r i = true then 1 else 0)
def repTo (z : Nat → List Int) : Nat → Int
  | 0 => 0
  | r + 1 => repTo z r + repIn z r (z r).length
def repeated (n : Int) (z : Nat → List Int) (l : Nat) : Int := if plansOk n z l then repTo z l else -1
theorem repIn_bd (z : Nat → List Int) (r i : Nat) : 0 ≤ repIn z r i ∧ repIn z r i ≤ i := by
  induction i with
  | zero => simp [repIn]
  | succ i ih => simp only [repIn]; split <;> omega
theorem repTo_bd {n : Int} {z : Nat → List Int} {l : Nat} (h : Plan n z l) : ∀ r, r ≤ l → 0 ≤ repTo z r ∧ repTo z r ≤ 10 * (r : Int) := by
  intro r
  induction r with
  | zero => intro _; simp [repTo]
  | succ r ih =>
    intro hr
    have h1 := ih (by omega)
    have h2 := repIn_bd z r (z r).length
    have h3 := h.len r (by omega)
    have h4 := h.n9
    simp only [repTo]
    omega
end Go.Proofs.Ythenjmjnooaokaa
