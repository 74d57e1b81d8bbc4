/- Contract of the laws' btoi; a literal of one row. -/
import Derived.Test.YtmpadppnhhamhaaRii2
namespace Go.Proofs.Ytmpadppnhhamhaa
open Go.ChangeShapes Go.WideShapes Go.ChangeAt Go.RowKit
theorem btoi_t (w : World) : Calls Try.prog 31 #[.bool true] w fun e w' => e = .returned (.int .i64 1) ∧ w = w' := by
  go_enter Try.func31, Try.ntmps31
  go_wp2
  go_ret
  exact ⟨rfl, rfl⟩
theorem btoi_f (w : World) : Calls Try.prog 31 #[.bool false] w fun e w' => e = .returned (.int .i64 0) ∧ w = w' := by
  go_enter Try.func31, Try.ntmps31
  go_wp2
  go_ret
  exact ⟨rfl, rfl⟩
theorem lit_four (w : World) : RowII ((w.alloc (.cells #[.int .i64 4] 3)).alloc (.cells #[.slice (some ⟨w.heap.size, 0, none⟩) 1 1] 28)) (w.heap.size + 2) (some ⟨w.heap.size + 1, 0, none⟩) 1 1 (fun _ => [4]) := by
  refine ⟨Nat.le_refl _, by unfold maxLen; omega, fun _ => ⟨w.heap.size + 1, 0, rfl, by omega, fun i hi => ?_⟩⟩
  obtain rfl : i = 0 := by omega
  refine ⟨some ⟨w.heap.size, 0, none⟩, 1, by go_simp, rfl, Nat.le_refl _, by unfold maxLen; simp, fun z hz => ?_, fun _ => ⟨w.heap.size, 0, rfl, by omega, fun j hj => ?_⟩⟩
  · simp only [List.mem_singleton] at hz; subst hz; rfl
  · have : j = 0 := by simpa using hj
    subst this
    go_simp
    rfl
end Go.Proofs.Ytmpadppnhhamhaa
