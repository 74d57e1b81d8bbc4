/- Plain functions on the texts of cells, blocks and quilts. No program in sight. -/
import Derived.Test.YtheafiaemcmjaaaDoorPureC
import Derived.Test.YtheafiaemcmjaaaDoorBase
namespace Go.Proofs.YtheafiaemcmjaaaDoor
def strB (l : List UInt8) : ByteArray := ⟨l.toArray⟩
theorem strB_list (l : List UInt8) : (strB l).data.toList = l := by simp [strB]
theorem strB_size (l : List UInt8) : (strB l).size = l.length := by simp [strB, ByteArray.size]
theorem strB_app (a b : List UInt8) : strB a ++ strB b = strB (a ++ b) := by
  apply ByteArray.ext
  simp [strB, ByteArray.data_append]
theorem strB_eq {a b : List UInt8} : strB a = strB b ↔ a = b := ⟨fun h => by have := congrArg (fun s => s.data.toList) h; simpa [strB] using this, fun h => by rw [h]⟩
theorem strB_self (s : ByteArray) : strB s.data.toList = s := by cases s; simp [strB]
/-- the figure of a number from 0 to 9 -/
def figs (n : Nat) : List UInt8 := [UInt8.ofNat (48 + n)]
/-- the text of a cell -/
def cellTx (f : Nat → Int) : List UInt8 := if cellOk f then (if f 0 = 0 then figs (f 1).toNat else figs (f 1).toNat ++ [if f 0 = 1 then 47 else 92] ++ figs (f 2).toNat) else []
theorem cellTx_no {f : Nat → Int} (h : cellOk f = false) : cellTx f = [] := by unfold cellTx; rw [h]; rfl
theorem cellTx_len (f : Nat → Int) : (cellTx f).length ≤ 3 := by
  unfold cellTx; split
  · split <;> simp [figs]
  · simp
end Go.Proofs.YtheafiaemcmjaaaDoor
