/- Plain functions on sheets: the quilt that beats all others. No program in sight. -/
import Derived.Test.YtmpadppnhhamhaaPureW
namespace Go.Proofs.Ytmpadppnhhamhaa
/-- does quilt i beat the first j others? -/
def beatAll (z : Nat → List Int) (n i : Nat) : Nat → Bool
  | 0 => true
  | j + 1 => beatAll z n i j && (((i : Int) == (j : Int)) || beats z n i j)
/-- the first winner among the last r of m -/
def winGo (z : Nat → List Int) (n m : Nat) : Nat → Int
  | 0 => -1
  | r + 1 => if beatAll z n (m - (r + 1)) m then ((m - (r + 1) : Nat) : Int) else winGo z n m r
def winner (z : Nat → List Int) (n : Nat) : Int := if sheetOk z n then winGo z n (z 0).length (z 0).length else -1
theorem winGo_step {z : Nat → List Int} {n m i : Nat} (h : i < m) : winGo z n m (m - i) = if beatAll z n i m then (i : Int) else winGo z n m (m - (i + 1)) := by
  obtain ⟨r, hr⟩ : ∃ r, m - i = r + 1 := ⟨m - i - 1, by omega⟩
  rw [hr, winGo, show m - (r + 1) = i by omega, show m - (i + 1) = r by omega]
end Go.Proofs.Ytmpadppnhhamhaa
