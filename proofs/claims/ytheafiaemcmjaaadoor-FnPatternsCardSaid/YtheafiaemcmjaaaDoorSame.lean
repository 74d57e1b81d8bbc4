/- Contract of the program's SameBlock at two blocks with the same cells. -/
import Derived.Test.YtheafiaemcmjaaaDoorBlock
import Derived.Test.YtheafiaemcmjaaaDoorBoxV
import Derived.Deep.RegionHeld3
namespace Go.Proofs.YtheafiaemcmjaaaDoor
open Go.ChangeShapes Go.WideShapes Go.ChangeAt Go.RowKit
theorem RowP.congr {m : Nat} {w : World} {B n c : Nat} {A : Option Addr} {f f' : Nat → Nat → Int} (h : RowP m w B A n c f) (hf : ∀ i, i < n → ∀ j, j < m → f i j = f' i j) : RowP m w B A n c f' :=
  ⟨h.1, h.2.1, fun i hi j hj => by rw [← hf i hi j hj]; exact h.2.2.1 i hi j hj, fun hn => by
    obtain ⟨b, off, e, hb, hc⟩ := h.2.2.2 hn
    exact ⟨b, off, e, hb, fun i hi j hj => by rw [← hf i hi j hj]; exact hc i hi j hj⟩⟩
set_option maxHeartbeats 4000000 in
theorem same_block (s : Int) (A A' : Option Addr) (n c c' : Nat) (f : Nat → Nat → Int) (B : Nat) (w : World) (h : RowP 3 w B A n c f) (h' : RowP 3 w B A' n c' f) (hB : B ≤ w.heap.size) :
    Calls Tryd.prog 34 #[.agg #[.int .i64 s, .slice A n c], .agg #[.int .i64 s, .slice A' n c']] w fun e w' => e = .returned (.bool true) ∧ Below w.heap.size w w' := by
  have hcap := h.cap
  unfold maxLen at hcap
  obtain ⟨w1, hw1⟩ : ∃ w1, w1 = w.alloc (.cells #[.int .i64 s, .slice A n c] 46) := ⟨_, rfl⟩
  obtain ⟨w2, hw2⟩ : ∃ w2, w2 = w1.alloc (.cells #[.int .i64 s, .slice A' n c'] 46) := ⟨_, rfl⟩
  have k1 : BoxV w1 w.heap.size [.int .i64 s, .slice A n c] := by rw [hw1]; exact boxV_new _ _ _
  have n1 : Below w.heap.size w w1 := by rw [hw1]; exact (Below.refl _ _).alloc (Nat.le_refl _) _
  have n2 : Below w1.heap.size w1 w2 := by rw [hw2]; exact (Below.refl _ _).alloc (Nat.le_refl _) _
  have z1 : w1.heap.size = w.heap.size + 1 := by rw [hw1]; simp
  have k2 : BoxV w2 (w.heap.size + 1) [.int .i64 s, .slice A' n c'] := by rw [← z1, hw2]; exact boxV_new _ _ _
  have k1' : BoxV w2 w.heap.size [.int .i64 s, .slice A n c] := k1.below n2 (by omega)
  have hb2 : Below w.heap.size w w2 := n1.trans (n2.mono (by omega))
  have r1 := h.below' hb2 hB
  have r2 := h'.below' hb2 hB
  have HW1 := Lib.hid hw1
  have HW2 := Lib.hid hw2
  clear k1 n1 n2 z1 h h' hw1 hw2
  have x0 := k1'.2 0 _ rfl
  have x1 := k1'.2 1 _ rfl
  have y0 := k2.2 0 _ rfl
  have y1 := k2.2 1 _ rfl
  have e1 : (s == s) = true := by simp
  have e2 : (s != s) = false := by simp
  have e3 : ((n : Int) == (n : Int)) = true := by simp
  have e4 : ((n : Int) != (n : Int)) = false := by simp
  go_enter Tryd.func34, Tryd.ntmps34
  go_wp2_with fail
  rw [← HW1.out, ← HW2.out]
  clear x0 x1 y0 y1
  go_loopw [23] (fun kv wr => ∃ k : Nat, k ≤ n ∧ kv = .int .i64 k ∧ BoxV wr w.heap.size [.int .i64 s, .slice A n c] ∧ BoxV wr (w.heap.size + 1) [.int .i64 s, .slice A' n c'] ∧ RowP 3 wr B A n c f ∧ RowP 3 wr B A' n c' f ∧ Below w.heap.size w wr) (fun kv _ => n - (intOf kv).toNat)
  case atStart => exact ⟨0, by omega, rfl, k1', k2, r1, r2, hb2⟩
  case round =>
    clear k1' k2 r1 r2 hb2
    obtain ⟨k, hk, rfl, k1, k2, r1, r2, hb⟩ := hrel
    by_cases hlt : k < n
    · have k0 : (0 : Int) ≤ (k : Int) := by omega
      have k3 : (k : Int) < (n : Int) := by omega
      obtain ⟨b1, o1, rfl, _, hc1⟩ := r1.at_ hlt
      obtain ⟨b2, o2, rfl, _, hc2⟩ := r2.at_ hlt
      have x1 := k1.2 1 _ rfl
      have y1 := k2.2 1 _ rfl
      have u0 : wr.cell? ⟨b1, o1 + k * 3, none⟩ = some (.int .i64 (f k 0)) := by exact hc1 0 (by omega)
      have u1 : wr.cell? ⟨b1, o1 + k * 3 + 1, none⟩ = some (.int .i64 (f k 1)) := by rw [Nat.add_assoc]; exact hc1 1 (by omega)
      have u2 : wr.cell? ⟨b1, o1 + k * 3 + 2, none⟩ = some (.int .i64 (f k 2)) := by rw [Nat.add_assoc]; exact hc1 2 (by omega)
      have v0 : wr.cell? ⟨b2, o2 + k * 3, none⟩ = some (.int .i64 (f k 0)) := by exact hc2 0 (by omega)
      have v1 : wr.cell? ⟨b2, o2 + k * 3 + 1, none⟩ = some (.int .i64 (f k 1)) := by rw [Nat.add_assoc]; exact hc2 1 (by omega)
      have v2 : wr.cell? ⟨b2, o2 + k * 3 + 2, none⟩ = some (.int .i64 (f k 2)) := by rw [Nat.add_assoc]; exact hc2 2 (by omega)
      clear hc1 hc2
      go_wp2_with fail
      go_region
      clear u0 u1 u2 v0 v1 v2 x1 y1
      go_wp2
      go_roundw
      case rel => exact ⟨k + 1, by omega, by go_num, k1, k2, r1, r2, hb.drew⟩
      case measure => simp [intOf]; omega
    · have k3 : ¬ (k : Int) < (n : Int) := by omega
      go_wp2
      go_ret
      exact ⟨rfl, hb⟩
end Go.Proofs.YtheafiaemcmjaaaDoor
