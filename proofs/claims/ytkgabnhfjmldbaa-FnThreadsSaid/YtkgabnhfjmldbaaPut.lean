/- Contracts of the small functions on lists: insertion, sorting, strictly ascending lists, the index of a number. -/
import Derived.Test.YtkgabnhfjmldbaaApp
import Derived.Test.YtkgabnhfjmldbaaPureY
import Derived.Deep.QuietTactic
import Derived.BigQuiet
import Derived.Outline
namespace Go.Proofs.Ytkgabnhfjmldbaa
open Go.ChangeShapes Go.WideShapes Go.ChangeAt Go.RowKit
/-- what insertion has made of the first k numbers -/
def putTo (x : Int) (zs : List Int) (k : Nat) : List Int := if anyGe x (zs.take k) then ins x (zs.take k) else zs.take k
theorem putTo_zero (x : Int) (zs : List Int) : putTo x zs 0 = [] := by simp [putTo, anyGe]
theorem anyGe_step (x : Int) {zs : List Int} {k : Nat} (h : k < zs.length) : anyGe x (zs.take (k + 1)) = (anyGe x (zs.take k) || decide (x ≤ nth zs k)) := by
  rw [take_succ_nth h, anyGe_snoc]
theorem putTo_done {x : Int} {zs : List Int} {k : Nat} (h : k < zs.length) (e : anyGe x (zs.take k) = true) : putTo x zs (k + 1) = putTo x zs k ++ [nth zs k] := by
  unfold putTo
  rw [anyGe_step x h, e, Bool.true_or, if_pos rfl, if_pos rfl, take_succ_nth h, ins_snoc, if_pos e]
theorem putTo_new {x : Int} {zs : List Int} {k : Nat} (h : k < zs.length) (e : anyGe x (zs.take k) = false) (q : x ≤ nth zs k) : putTo x zs (k + 1) = putTo x zs k ++ [x] ++ [nth zs k] := by
  unfold putTo
  rw [anyGe_step x h, e, decide_eq_true q, Bool.false_or, if_pos rfl, if_neg (by simp), take_succ_nth h, ins_snoc, if_neg (by rw [e]; simp)]
  simp [ins, q]
theorem putTo_not {x : Int} {zs : List Int} {k : Nat} (h : k < zs.length) (e : anyGe x (zs.take k) = false) (q : nth zs k < x) : putTo x zs (k + 1) = putTo x zs k ++ [nth zs k] := by
  unfold putTo
  rw [anyGe_step x h, e, decide_eq_false (by omega), Bool.false_or, if_neg (by simp), if_neg (by simp), take_succ_nth h]
theorem putTo_end {x : Int} {zs : List Int} (e : anyGe x (zs.take zs.length) = true) : putTo x zs zs.length = ins x zs := by
  unfold putTo
  rw [if_pos e, List.take_length]
theorem putTo_end' {x : Int} {zs : List Int} (e : anyGe x (zs.take zs.length) = false) : putTo x zs zs.length ++ [x] = ins x zs := by
  unfold putTo
  rw [if_neg (by rw [e]; simp), List.take_length]
  rw [List.take_length] at e
  exact (ins_none x zs e).symm
set_option maxHeartbeats 4000000 in
theorem index_any (A : Option Addr) (n c : Nat) (zs : List Int) (x : Int) (B : Nat) (w : World) (hr : RowI .i64 w B A n c zs) :
    Calls Try.prog 41 #[.slice A n c, .int .i64 x] w fun e w' => e = .returned (.int .i64 (idxOf zs x)) ∧ w = w' := by
  have HL := Lib.hid hr.len
  have hcap := hr.cap
  unfold maxLen at hcap
  go_enter Try.func41, Try.ntmps41
  go_wp2_with fail
  go_loop [5, 6, 9] (fun _ _ i => ∃ k : Nat, k ≤ n ∧ i = .int .i64 k ∧ Hid (idxOf zs x = idxFrom zs x k (n - k))) (fun _ _ i => n - (intOf i).toNat)
  case atStart => exact ⟨0, Nat.zero_le _, rfl, Lib.hid (by unfold idxOf; rw [HL.out]; rfl)⟩
  case round =>
    obtain ⟨k, hk, rfl, hI⟩ := hrel
    by_cases hlt : k < n
    · obtain ⟨bb, off, rfl, hbB, hc⟩ := hr.at_ hlt
      have k0 : (0 : Int) ≤ (k : Int) := by omega
      have k3 : (k : Int) < (n : Int) := by omega
      have HE := Lib.hid (show idxFrom zs x k (n - k) = if nth zs k == x then (k : Int) else idxFrom zs x (k + 1) (n - (k + 1)) by rw [show n - k = (n - (k + 1)) + 1 by omega]; rfl)
      rcases Bool.eq_false_or_eq_true (nth zs k == x) with q | q
      · have HS := Lib.hid (show idxOf zs x = (k : Int) by rw [hI.out, HE.out, if_pos q])
        go_wp2
        go_ret
        exact ⟨ret_int HS.out.symm, rfl⟩
      · have HS := Lib.hid (show idxOf zs x = idxFrom zs x (k + 1) (n - (k + 1)) by rw [hI.out, HE.out, if_neg (by rw [q]; simp)])
        go_wp2
        go_round
        case rel => exact ⟨k + 1, by omega, by go_num, HS⟩
        case measure => simp [intOf]; omega
    · have HS := Lib.hid (show idxOf zs x = -1 by rw [hI.out, show n - k = 0 by omega]; rfl)
      have k3 : ¬ (k : Int) < (n : Int) := by omega
      go_wp2
      go_ret
      exact ⟨ret_int HS.out.symm, rfl⟩
end Go.Proofs.Ytkgabnhfjmldbaa
