/- Contracts of FormatInt and CellText: the program's and the reference's. -/
import Derived.Test.YtheafiaemcmjaaaDoorPureTx
import Derived.Test.YtheafiaemcmjaaaDoorNum
import Derived.Test.YtheafiaemcmjaaaDoorCell
import Derived.Test.YtheafiaemcmjaaaDoorShelf
import Derived.Deep.QuietTactic
import Derived.BigQuiet
import Derived.Outline
import Derived.Deep.RegionHeld3
import Derived.Laws.BytesArg
namespace Go.Proofs.YtheafiaemcmjaaaDoor
open Go.ChangeShapes Go.WideShapes Go.ChangeAt Go.RowKit
theorem ret_u8 {a b : Int} (h : a = b) : Ending.returned (.int .u8 a) = .returned (.int .u8 b) := by rw [h]
theorem dec_fig (n : Nat) (h : n ≤ 9) : (Lib.decDigits n) = figs n := by
  have : ∀ k : Fin 10, Lib.decDigits k.val = figs k.val := by decide +kernel
  exact this ⟨n, by omega⟩
theorem impl_fmt (n : Nat) (w : World) (h : n ≤ 9) : Calls Tryd.prog 42 #[.int .i64 n] w fun e w' => e = .returned (.string (strB (figs n))) ∧ w = w' := by
  have HD := Lib.hid (dec_fig n h)
  go_enter Tryd.func42, Tryd.ntmps42
  go_wp2_with fail
  refine (Tryd.strconv_Itoa_small n (by omega) w).mono ?_
  rintro e w' ⟨rfl, rfl⟩
  rw [HD.out]
  go_wp2
  go_ret
  exact ⟨rfl, rfl⟩
theorem num_fig (n : Nat) (h : n ≤ 9) : strOfNums [(48 : Int) + n] = strB (figs n) := by
  have : ∀ k : Fin 10, strOfNums [(48 : Int) + (k.val : Nat)] = strB (figs k.val) := by decide
  exact this ⟨n, by omega⟩
theorem conv_fig (c : Int) (w : World) : (convert 56 9 (.slice (some ⟨w.heap.size, 0, none⟩) 1 1)).run Tryd.prog (w.alloc (.cells #[.int .u8 c] 5)) = .ok (.string (strOfNums [c])) (w.alloc (.cells #[.int .u8 c] 5)) := by
  refine run_convert_bytes_arg _ _ _ Tryd.underlying56 Tryd.underlying5 w.heap.size 0 1 1 [c] rfl (fun i hi => ?_) _ Tryd.underlying9
  obtain rfl : i = 0 := by omega
  go_simp
set_option maxHeartbeats 2000000 in
theorem spec_figure (n : Nat) (w : World) (h : n ≤ 9) : Calls Tryd.prog 62 #[.int .i64 n] w fun e w' => e = .returned (.int .u8 (48 + n)) ∧ w = w' := by
  go_enter Tryd.func62, Tryd.ntmps62
  go_wp2
  go_ret
  exact ⟨ret_u8 (by omega), rfl⟩
set_option maxRecDepth 100000 in
set_option maxHeartbeats 2000000 in
theorem spec_fmt (n : Nat) (w : World) (h : n ≤ 9) : Calls Tryd.prog 39 #[.int .i64 n] w fun e w' => e = .returned (.string (strB (figs n))) ∧ Below w.heap.size w w' := by
  go_enter Tryd.func39, Tryd.ntmps39
  rcases (by omega : n = 0 ∨ 1 ≤ n) with r | r
  · subst r
    go_wp2
    go_ret
    exact ⟨rfl, Below.refl _ _⟩
  · have t1 : ((n : Int) == 0) = false := by simp; omega
    have t2 : ((n : Int) != 0) = true := by simp; omega
    have t3 : decide ((n : Int) < 0) = false := decide_eq_false (by omega)
    have t4 : (n : Int) % 10 = n := by omega
    have t5 : (n : Int) / 10 = 0 := by omega
    go_wp2_with fail
    go_loopw [0, 4] (fun i s wr => ((i = .int .i64 n ∧ s = .string (strB [])) ∨ (i = .int .i64 0 ∧ s = .string (strB (figs n)))) ∧ Below w.heap.size w wr) (fun i _ _ => (intOf i).toNat)
    case atStart => exact ⟨.inl ⟨rfl, rfl⟩, Below.refl _ _⟩
    case round =>
      obtain ⟨⟨rfl, rfl⟩ | ⟨rfl, rfl⟩, hb⟩ := hrel
      · go_wp2_with fail
        refine (spec_figure n wr h).mono ?_
        rintro e w' ⟨rfl, rfl⟩
        clear t1 t2 t4
        obtain ⟨c, hc⟩ : ∃ c : Int, c = 48 + n := ⟨_, rfl⟩
        rw [← hc]
        have hB : strOfNums [c] = strB (figs n) := by rw [hc]; exact num_fig n h
        have hcell : (wr.alloc (.cells #[.int .u8 c] 5)).cell? ⟨wr.heap.size, 0, none⟩ = some (.int .u8 c) := by go_simp
        have kc := conv_fig c wr
        rw [hB] at kc
        have HC := Lib.hid hc
        have HBB := Lib.hid hB
        clear hc hB
        have T5 := Lib.hid t5
        clear t5
        go_wp2
        refine ⟨⟨.inr ⟨by rw [T5.out], by rw [strB_app, List.append_nil]⟩, hb.alloc hb.size _⟩, ?_⟩
        have t5 := T5.out; simp [intOf]; omega
      · clear t4 t5
        go_wp2
        go_ret
        exact ⟨rfl, hb⟩
end Go.Proofs.YtheafiaemcmjaaaDoor
