/- Contracts of the reference's drawing cursor: l01Byte gives a number from 0 to 255 and turns the cursor alone. -/
import Derived.Test.YthenjmjnooaokaaInts
import Derived.Deep.QuietTactic
import Derived.BigQuiet
import Derived.Laws.Bits128
import Derived.Outline
namespace Go.Proofs.Ythenjmjnooaokaa
open Go.ChangeShapes Go.WideShapes Go.ChangeAt Go.RowKit
theorem i64_and255 (n : Int) : bits .and .i64 n 255 = n % 256 := by
  have h255 : (BitVec.ofInt 64 255).toNat = 2 ^ 8 - 1 := by decide
  have key : (BitVec.ofInt 64 n &&& BitVec.ofInt 64 255).toNat = (n % ((2 ^ 64 : Nat) : Int)).toNat % 2 ^ 8 := by
    rw [BitVec.toNat_and, BitVec.toNat_ofInt, h255, Nat.and_two_pow_sub_one_eq_mod]
  show IntKind.i64.wrap ((BitVec.ofInt 64 n &&& BitVec.ofInt 64 255).toNat : Nat) = n % 256
  rw [key, IntKind.wrap_i64]
  omega
theorem and255_nat (n : Int) : ∃ v : Nat, v ≤ 255 ∧ bits .and .i64 n 255 = (v : Int) := ⟨(n % 256).toNat, by omega, by rw [i64_and255]; omega⟩
/-- The cursor's cells. -/
def CurAt (w : World) (b : Nat) (A : Option Addr) (n c : Nat) : Prop := ∃ (i : Nat) (h : Int), i ≤ n ∧ w.heap[b]? = some (.cells #[.slice A n c, .int .i64 i, .int .i64 h] 115 (0, 0))
theorem cur_frozen {w : World} {b j : Nat} {cs : Array Value} {t : TypeId} (h : w.heap[b]? = some (.cells cs t (0, 0))) : w.frozen? ⟨b, j, none⟩ = false := by
  simp [World.frozen?, h]
theorem curGrown_step {w wr : World} {g : Nat} (hg : w.grownBy wr (some g)) (j : Nat) (x : Value) : w.grownBy (wr.setCell ⟨g, j, none⟩ x) (some g) :=
  ⟨hg.os, hg.tape, hg.output, by simpa [World.setCell] using hg.size, fun i hi hne => (Below.heap_setCell wr ⟨g, j, none⟩ _ i (by intro e; exact hne (by rw [e]))).trans (hg.block i hi hne)⟩
theorem cur_grown_trans {w w1 w2 : World} {g : Nat} (h1 : w.grownBy w1 (some g)) (h2 : w1.grownBy w2 (some g)) : w.grownBy w2 (some g) :=
  ⟨h2.os.trans h1.os, h2.tape.trans h1.tape, h2.output.trans h1.output, Nat.le_trans h1.size h2.size, fun i hi hne => (h2.block i (Nat.lt_of_lt_of_le hi h1.size) hne).trans (h1.block i hi hne)⟩
set_option maxHeartbeats 1000000 in
theorem byte_any (b : Nat) (A : Option Addr) (n c : Nat) (zs : List Int) (B : Nat) (w : World) (hr : RowI .u8 w B A n c zs) (hB : B ≤ b) (hcb : B ≤ w.heap.size) (hn : n ≤ 1048576) (hc : CurAt w b A n c) :
    Calls Try.prog 99 #[.pointer (some ⟨b, 0, none⟩)] w fun e w' => ∃ v : Nat, v ≤ 255 ∧ e = .returned (.int .i64 v) ∧ CurAt w' b A n c ∧ w.grownBy w' (some b) := by
  obtain ⟨i, h, hi, hw⟩ := hc
  have c0 : w.cell? ⟨b, 0, none⟩ = some (.slice A n c) := by rw [cell_of_row w b 0 _ _ _ hw]; rfl
  have c1 : w.cell? ⟨b, 1, none⟩ = some (.int .i64 i) := by rw [cell_of_row w b 1 _ _ _ hw]; rfl
  have c2 : w.cell? ⟨b, 2, none⟩ = some (.int .i64 h) := by rw [cell_of_row w b 2 _ _ _ hw]; rfl
  have f1 : w.frozen? ⟨b, 1, none⟩ = false := cur_frozen hw
  have f2 : w.frozen? ⟨b, 2, none⟩ = false := cur_frozen hw
  have HW := Lib.hid hw
  clear hw
  go_enter Try.func99, Try.ntmps99
  go_wp2_with fail
  go_quiet (fail)
  rename_i nq
  go_wp2_with fail
  obtain ⟨v0, hv0, e0⟩ := and255_nat (bits .xor .i64 (wrap64 (wrap64 (h * 6364136223846793005) + 1442695040888963407) / 8589934592) (wrap64 (wrap64 (h * 6364136223846793005) + 1442695040888963407) / 35184372088832))
  rw [e0]
  clear e0
  generalize wrap64 (wrap64 (h * 6364136223846793005) + 1442695040888963407) = X
  obtain ⟨w2, hw2⟩ : ∃ w2, w2 = (w.setCell ⟨b, 2, none⟩ (.int .i64 X)).drewN nq := ⟨_, rfl⟩
  have HW2 : w2.heap[b]? = some (.cells #[.slice A n c, .int .i64 i, .int .i64 X] 115 (0, 0)) := by
    rw [hw2]
    have := heap_setCell_same w b 2 _ _ (.int .i64 X) HW.out
    simpa using this
  have g2 : w.grownBy w2 (some b) := by
    rw [hw2]
    have := curGrown_step (World.grownBy.refl w (some b)) 2 (.int .i64 X)
    exact ⟨this.os, this.tape, this.output, this.size, this.block⟩
  rw [← hw2]
  clear hw2 c0 c1 c2 f1 f2
  have c0 : w2.cell? ⟨b, 0, none⟩ = some (.slice A n c) := by rw [cell_of_row w2 b 0 _ _ _ HW2]; rfl
  have c1 : w2.cell? ⟨b, 1, none⟩ = some (.int .i64 i) := by rw [cell_of_row w2 b 1 _ _ _ HW2]; rfl
  have f1 : w2.frozen? ⟨b, 1, none⟩ = false := cur_frozen HW2
  have HW3 := Lib.hid HW2
  have hr2 : RowI .u8 w2 B A n c zs := hr.keep fun p hp => World.cell?_of_block (w := w) (g2.block p.block (by have := hcb; omega) (by simp; omega))
  clear HW2
  by_cases hin : i < n
  · obtain ⟨rb, off, rfl, hb, hcc⟩ := hr2.at_ hin
    have hl := hr2.len
    have hwf := hr2.2.2.2.1 (nth zs i) (nth_mem (by omega))
    have hu : 0 ≤ nth zs i ∧ nth zs i ≤ 255 := by
      have e1 : IntKind.u8.min = 0 := rfl
      have e2 : IntKind.u8.max = 255 := rfl
      simp [Lit.wf] at hwf
      omega
    obtain ⟨u, hu2⟩ : ∃ u : Nat, nth zs i = (u : Int) := ⟨(nth zs i).toNat, by omega⟩
    rw [hu2] at hcc
    have u255 : u ≤ 255 := by omega
    clear hl hwf hu hu2 hr2 hr
    have d1 : decide ((i : Int) < (n : Int)) = true := decide_eq_true (by omega)
    have d2 : (i : Int) < (n : Int) := by omega
    have i0 : (0 : Int) ≤ (i : Int) := by omega
    have ku : IntKind.i64.wrap (u : Int) = (u : Int) := IntWalk.i64_in _ (by omega)
    go_quiet (fail)
    go_wp2_with fail
    go_quiet (fail)
    go_wp2_with fail
    obtain ⟨v1, hv1, e1⟩ := and255_nat ((v0 : Int) + (u : Int))
    rw [e1]
    go_ret
    have HE := heap_setCell_same w2 b 1 _ _ (.int .i64 ((i : Int) + 1)) HW3.out
    have HE2 : (w2.setCell ⟨b, 1, none⟩ (.int .i64 ((i : Int) + 1))).heap[b]? = some (.cells #[.slice (some ⟨rb, off, none⟩) n c, .int .i64 ((i + 1 : Nat) : Int), .int .i64 X] 115 (0, 0)) := by simpa using HE
    have gE := curGrown_step g2 1 (.int .i64 ((i : Int) + 1))
    exact ⟨v1, hv1, rfl, ⟨i + 1, X, by omega, HE2⟩, ⟨gE.os, gE.tape, gE.output, gE.size, gE.block⟩⟩
  · have d1 : decide ((i : Int) < (n : Int)) = false := decide_eq_false (by omega)
    have d2 : ¬ (i : Int) < (n : Int) := by omega
    go_quiet (fail)
    go_wp2
    go_ret
    exact ⟨v0, hv0, rfl, ⟨i, X, hi, HW3.out⟩, ⟨g2.os, g2.tape, g2.output, g2.size, g2.block⟩⟩
set_option maxHeartbeats 1000000 in
/-- a number below k, for k from 1 to 256 -/
theorem below_any (k b : Nat) (A : Option Addr) (n c : Nat) (zs : List Int) (B : Nat) (w : World) (hr : RowI .u8 w B A n c zs) (hB : B ≤ b) (hcb : B ≤ w.heap.size) (hn : n ≤ 1048576) (hc : CurAt w b A n c) (k1 : 1 ≤ k) (k2 : k ≤ 256) :
    Calls Try.prog 73 #[.pointer (some ⟨b, 0, none⟩), .int .i64 k] w fun e w' => ∃ v : Nat, v < k ∧ e = .returned (.int .i64 v) ∧ CurAt w' b A n c ∧ w.grownBy w' (some b) := by
  have d1 : ¬ (k : Int) ≤ 0 := by omega
  have d2 : (k : Int) ≤ 256 := by omega
  have d3 : ¬ k = 0 := by omega
  have d4 : ((k : Int) == 0) = false := beq_eq_false_iff_ne.2 (by omega)
  go_enter Try.func73, Try.ntmps73
  go_wp2_with fail
  refine (byte_any b A n c zs B w hr hB hcb hn hc).mono ?_
  rintro e w' ⟨v, hv, rfl, hc', hg⟩
  obtain ⟨q, hq⟩ : ∃ q, q = v % k := ⟨_, rfl⟩
  have hqk : q < k := by rw [hq]; exact Nat.mod_lt _ (by omega)
  have t1 : (v : Int).tmod (k : Int) = (q : Int) := by rw [hq, Int.tmod_eq_emod_of_nonneg (by omega)]; rfl
  clear hq
  go_wp2
  go_ret
  exact ⟨q, hqk, rfl, hc', hg⟩
set_option maxHeartbeats 2000000 in
/-- a new cursor in a block of its own -/
theorem new_any (A : Option Addr) (n c : Nat) (zs : List Int) (B : Nat) (w : World) (hr : RowI .u8 w B A n c zs) (hn : n ≤ 1048576) :
    Calls Try.prog 72 #[.slice A n c] w fun e w' => e = .returned (.pointer (some ⟨w.heap.size, 0, none⟩)) ∧ CurAt w' w.heap.size A n c ∧ Below w.heap.size w w' ∧ w'.heap.size = w.heap.size + 1 := by
  go_enter Try.func72, Try.ntmps72
  go_wp2_with fail
  go_loopw [3, 4] (fun hv iv wr => ∃ (i : Nat) (h : Int), i ≤ n ∧ iv = .int .i64 i ∧ hv = .int .i64 h ∧ w = wr) (fun _ iv _ => n - (intOf iv).toNat)
  case atStart => exact ⟨0, _, by omega, rfl, rfl, rfl⟩
  case round =>
    obtain ⟨i, h, hi, rfl, rfl, rfl⟩ := hrel
    by_cases hin : i < n ∧ i < 4000
    · obtain ⟨hin, h4⟩ := hin
      obtain ⟨rb, off, rfl, hb, hcc⟩ := hr.at_ hin
      have d1 : (i : Int) < (n : Int) := by omega
      have d2 : (i : Int) < 4000 := by omega
      have i0 : (0 : Int) ≤ (i : Int) := by omega
      go_wp2
      go_roundw
      case rel => exact ⟨i + 1, _, by omega, by go_num, rfl, by first | trivial | rfl⟩
      case measure => simp [intOf]; omega
    · rcases (by omega : ¬ i < n ∨ (i < n ∧ ¬ i < 4000)) with d | ⟨d, d3⟩
      · have d1 : ¬ (i : Int) < (n : Int) := by omega
        go_wp2
        go_ret
        exact ⟨rfl, ⟨0, h, by omega, heap_alloc_new w _⟩, (Below.refl _ _).alloc (Nat.le_refl _) _, by simp⟩
      · have d1 : (i : Int) < (n : Int) := by omega
        have d2 : ¬ (i : Int) < 4000 := by omega
        go_wp2
        go_ret
        exact ⟨rfl, ⟨0, h, by omega, heap_alloc_new w _⟩, (Below.refl _ _).alloc (Nat.le_refl _) _, by simp⟩
end Go.Proofs.Ythenjmjnooaokaa
