/- Plain facts of the swaps of 2 to 10 members: settled by computation. -/
import Derived.Test.YtkglgbdiakinlaaPureY
import Derived.Test.YtkglgbdiakinlaaPureP
import Derived.Test.YtkglgbdiakinlaaPureM
namespace Go.Proofs.Ytkglgbdiakinlaa
def recvOk (N : Nat) (R : List Int) (k : Nat) : Bool := decide (R.length = N - 1) && allTo (fun i => R.contains (i : Int) == !(i == k)) N
def goodB (N : Nat) (z : Nat → List Int) : Bool := fairOk N z (N - 1) && roundsOk N z (N - 1) && allTo (fun k => recvOk N (receivedBy N z (N - 1) k) k) N
set_option maxRecDepth 100000 in
theorem good_swap : ∀ q, q < 9 → goodB (q + 2) (fun j => swapRow (q + 2) j) = true := by decide +kernel
set_option maxRecDepth 100000 in
theorem good_meet : ∀ q, q < 9 → q % 2 = 0 → goodB (q + 2) (fun j => meetRow (q + 2) j) = true ∧ pairsOk (q + 2 : Nat) (fun j => meetRow (q + 2) j) (q + 2 - 1) = true := by decide +kernel
set_option maxRecDepth 100000 in
theorem meet_wf9 : ∀ q, q < 9 → q % 2 = 0 → ∀ j, j < 9 → ∀ x ∈ meetRow (q + 2) j, (Lit.int .i64 x).wf = true := by decide +kernel
theorem pairs_two : pairsOk 2 (fun _ => [1, 0]) 1 = true := by decide +kernel
end Go.Proofs.Ytkglgbdiakinlaa
