/- Plain functions: the contrast within a cell and at a side. No program in sight. -/
import Derived.Test.YthenjmjnooaokaaPureC
import Derived.Test.YthenjmjnooaokaaPureS
namespace Go.Proofs.Ythenjmjnooaokaa
def gap (a b : Int) : Int := if a < b then b - a else a - b
theorem gap_lt {a b : Int} (h : a < b) : gap a b = b - a := if_pos h
theorem gap_ge {a b : Int} (h : b ≤ a) : gap a b = a - b := if_neg (by omega)
theorem gap_bd {a b : Int} (ha : 0 ≤ a ∧ a ≤ 100) (hb : 0 ≤ b ∧ b ≤ 100) : 0 ≤ gap a b ∧ gap a b ≤ 100 := by unfold gap; split <;> omega
def innerC (f : Nat → Int) (zs : List Int) (n : Nat) : Int := if cellOk f && okList zs n 0 100 then gap (nth zs (f 1).toNat) (nth zs (f 2).toNat) else -1
def edgeC (f g : Nat → Int) (up : Bool) (zs : List Int) (n : Nat) : Int :=
  if cellOk f && cellOk g && okList zs n 0 100 then gap (nth zs (colorAt f (if up then 2 else 3)).toNat) (nth zs (colorAt g (if up then 0 else 1)).toNat) else -1
end Go.Proofs.Ythenjmjnooaokaa
