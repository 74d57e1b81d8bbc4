/- Plain functions on plans: a member drops out. No program in sight. -/
import Derived.Test.YtkglgbdiakinlaaPureY
import Derived.Test.YtkglgbdiakinlaaRii2
namespace Go.Proofs.Ytkglgbdiakinlaa
/-- a round without member K -/
def dropRow (zs : List Int) (K : Int) : List Int := (zs.set (idxOf zs K).toNat (nth zs K.toNat)).set K.toNat K
theorem dropRow_len (zs : List Int) (K : Int) : (dropRow zs K).length = zs.length := by simp [dropRow]
def dropOk (n : Int) (z : Nat → List Int) (l : Nat) (K : Int) : Bool := roundsOk n z l && inB K 0 (n - 1)
def dropN (n : Int) (z : Nat → List Int) (l : Nat) (K : Int) : Nat := if dropOk n z l K then l else 0
def dropZ (z : Nat → List Int) (K : Int) (j : Nat) : List Int := dropRow (z j) K
theorem set_wf {zs : List Int} {i : Nat} {x : Int} (h : ∀ z ∈ zs, (Lit.int .i64 z).wf = true) (hx : (Lit.int .i64 x).wf = true) : ∀ z ∈ zs.set i x, (Lit.int .i64 z).wf = true := by
  intro z hz
  rcases List.mem_or_eq_of_mem_set hz with h1 | h1
  · exact h z h1
  · rw [h1]; exact hx
theorem nth_wf {zs : List Int} {i : Nat} (h : ∀ z ∈ zs, (Lit.int .i64 z).wf = true) : (Lit.int .i64 (nth zs i)).wf = true := by
  by_cases e : i < zs.length
  · exact h _ (nth_mem e)
  · have : nth zs i = 0 := by simp [nth, List.getD, List.getElem?_eq_none (by omega : zs.length ≤ i)]
    rw [this]; rfl
theorem dropRow_wf {zs : List Int} {K : Int} (h : ∀ z ∈ zs, (Lit.int .i64 z).wf = true) (hK : (Lit.int .i64 K).wf = true) : ∀ z ∈ dropRow zs K, (Lit.int .i64 z).wf = true :=
  set_wf (set_wf h (nth_wf h)) hK
theorem drop_total (n : Int) (z : Nat → List Int) (l : Nat) (K : Int) (h : l + total z l ≤ 1048576) : dropN n z l K + total (dropZ z K) (dropN n z l K) ≤ 1048576 := by
  have h1 : dropN n z l K ≤ l := by unfold dropN; split <;> omega
  rw [total_congr (z := dropZ z K) (z' := z) fun i _ => dropRow_len (z i) K]
  have := total_mono z h1
  omega
/-- the first r rounds without member K, the others as they were -/
def dropped (z : Nat → List Int) (K : Int) (r : Nat) (j : Nat) : List Int := if j < r then dropRow (z j) K else z j
theorem dropped_upd (z : Nat → List Int) (K : Int) (r : Nat) : ∀ j, upd (dropped z K r) r (dropRow (z r) K) j = dropped z K (r + 1) j := by
  intro j
  unfold upd dropped
  by_cases e : j = r
  · subst e; simp
  · by_cases h : j < r
    · rw [if_neg e, if_pos h, if_pos (by omega)]
    · rw [if_neg e, if_neg h, if_neg (by omega)]
/-- the reference's round behind i members, whose sender is m -/
def dropAt (zs : List Int) (K m i : Nat) : List Int := if m < i then zs.set m (nth zs K) else zs
theorem dropAt_len (zs : List Int) (K m i : Nat) : (dropAt zs K m i).length = zs.length := by unfold dropAt; split <;> simp
end Go.Proofs.Ytkglgbdiakinlaa
