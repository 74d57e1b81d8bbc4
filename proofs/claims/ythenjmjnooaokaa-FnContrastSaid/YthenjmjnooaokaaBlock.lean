/- Contracts of BlockOk: the program's and the reference's. -/
import Derived.Test.YthenjmjnooaokaaStrs
import Derived.Test.YthenjmjnooaokaaCell2
import Derived.Test.YthenjmjnooaokaaPureBl
import Derived.Outline
namespace Go.Proofs.Ythenjmjnooaokaa
open Go.ChangeShapes Go.WideShapes Go.ChangeAt Go.RowKit
/-- a box of a number and a value -/
def BoxB (w : World) (b : Nat) (s : Int) (v : Value) : Prop := b < w.heap.size ∧ w.cell? ⟨b, 0, none⟩ = some (.int .i64 s) ∧ w.cell? ⟨b, 1, none⟩ = some v
theorem BoxB.below {w w' : World} {b B : Nat} {s : Int} {v : Value} (h : BoxB w b s v) (hb : Below B w w') (hB : b < B) : BoxB w' b s v :=
  ⟨Nat.lt_of_lt_of_le h.1 hb.size, (hb.cell (p := ⟨b, 0, none⟩) hB).trans h.2.1, (hb.cell (p := ⟨b, 1, none⟩) hB).trans h.2.2⟩
set_option maxHeartbeats 4000000 in
theorem impl_blockOk (s : Int) (A : Option Addr) (n c : Nat) (f : Nat → Nat → Int) (B : Nat) (w : World) (h : RowP 3 w B A n c f) (hB : B ≤ w.heap.size) :
    Calls Try.prog 53 #[.agg #[.int .i64 s, .slice A n c]] w fun e w' => e = .returned (.bool (blockOk s n f)) ∧ Below w.heap.size w w' := by
  have hcap := h.cap
  unfold maxLen at hcap
  have hb0 : Below w.heap.size w (w.alloc (.cells #[.int .i64 s, .slice A n c] 31)) := (Below.refl _ _).alloc (Nat.le_refl _) _
  have hx0 : BoxB (w.alloc (.cells #[.int .i64 s, .slice A n c] 31)) w.heap.size s (.slice A n c) := ⟨by simp, by go_simp, by go_simp⟩
  rcases inB_or s 1 4 with ⟨hI, s1, s2⟩ | hI
  · have hq := sq4 s1 s2
    rcases Bool.eq_false_or_eq_true ((n : Int) == s * s) with hn | hn
    · have HN := Lib.hid (beq_iff_eq.1 hn)
      have hn2 : ((n : Int) != s * s) = false := by simp [bne, hn]
      have n16 : n ≤ 16 := by have := HN.out; omega
      have HI := Lib.hid hI
      have HNB := Lib.hid hn
      go_enter Try.func53, Try.ntmps53
      go_wp2_with (go_at_call 52; refine (within_any _ _ _ _).mono ?_; rintro e w' ⟨rfl, rfl⟩)
      clear hI hn hn2
      go_loopw [4, 23] (fun _ i wr => ∃ k : Nat, k ≤ n ∧ i = .int .i64 k ∧ Hid (cellsOk f k = true) ∧ BoxB wr w.heap.size s (.slice A n c) ∧ Below w.heap.size w wr) (fun _ i _ => n - (intOf i).toNat)
      case atStart => exact ⟨0, by omega, rfl, Lib.hid rfl, hx0, hb0⟩
      case round =>
        clear hx0 hb0
        obtain ⟨k, hk, rfl, hC, hbx, hb⟩ := hrel
        have hbw := hb.size
        obtain ⟨hz, hz0, hz1⟩ := id hbx
        by_cases hlt : k < n
        · have h2 : RowP 3 wr B A n c f := h.keep fun p hp => hb.cell (by omega)
          obtain ⟨b, off, rfl, hbB, hc⟩ := h2.at_ hlt
          have x0 : wr.cell? ⟨b, off + k * 3, none⟩ = some (.int .i64 (f k 0)) := by exact hc 0 (by omega)
          have x1 : wr.cell? ⟨b, off + k * 3 + 1, none⟩ = some (.int .i64 (f k 1)) := by rw [Nat.add_assoc]; exact hc 1 (by omega)
          have x2 : wr.cell? ⟨b, off + k * 3 + 2, none⟩ = some (.int .i64 (f k 2)) := by rw [Nat.add_assoc]; exact hc 2 (by omega)
          have k0 : (0 : Int) ≤ (k : Int) := by omega
          have k3 : (k : Int) < (n : Int) := by omega
          clear hc h2
          go_wp2_with fail
          refine (impl_cellOk (f k) _).mono ?_
          rintro e w2 ⟨rfl, hb2⟩
          have hb3 := (hb.alloc hb.size (.cells #[.int .i64 (f k 0), .int .i64 (f k 1), .int .i64 (f k 2)] 56)).trans (hb2.mono (by simp; omega))
          have hbx2 := (BoxB.below (w := wr) hbx ((Below.refl _ _).alloc (Nat.le_refl _) (.cells #[.int .i64 (f k 0), .int .i64 (f k 1), .int .i64 (f k 2)] 56)) hbx.1).below hb2 (by simp; have := hbx.1; omega)
          clear hb hb2 hbx x0 x1 x2 hz hz0 hz1
          rcases Bool.eq_false_or_eq_true (cellOk (f k)) with a | a
          · have HC := Lib.hid (show cellsOk f (k + 1) = true from allTo_step (p := fun k => cellOk (f k)) hC.out a)
            rw [a]
            clear a
            go_wp2
            go_roundw
            case rel => exact ⟨k + 1, by omega, by go_num, HC, hbx2, hb3⟩
            case measure => simp [intOf]; omega
          · have HE := Lib.hid (show blockOk s n f = false from block_no hlt a)
            rw [a]
            clear a
            go_wp2
            go_ret
            exact ⟨ret_bool HE.out.symm, hb3⟩
        · have HE := Lib.hid (show blockOk s n f = true by have e := hC.out; rw [show k = n by omega] at e; unfold blockOk; rw [HI.out, HNB.out, e]; rfl)
          have k3 : ¬ (k : Int) < (n : Int) := by omega
          go_wp2
          go_ret
          exact ⟨ret_bool HE.out.symm, hb⟩
    · have HE := Lib.hid (show blockOk s n f = false by unfold blockOk; rw [hn, Bool.and_false]; rfl)
      have hn2 : ((n : Int) != s * s) = true := by simp [bne, hn]
      go_enter Try.func53, Try.ntmps53
      go_wp2_with (go_at_call 52; refine (within_any _ _ _ _).mono ?_; rintro e w' ⟨rfl, rfl⟩)
      go_ret
      exact ⟨ret_bool HE.out.symm, hb0⟩
  · have HE := Lib.hid (show blockOk s n f = false by unfold blockOk; rw [hI]; rfl)
    go_enter Try.func53, Try.ntmps53
    go_wp2_with (go_at_call 52; refine (within_any _ _ _ _).mono ?_; rintro e w' ⟨rfl, rfl⟩)
    go_ret
    exact ⟨ret_bool HE.out.symm, hb0⟩
set_option maxHeartbeats 4000000 in
theorem spec_blockOk (s : Int) (A : Option Addr) (n c : Nat) (f : Nat → Nat → Int) (B : Nat) (w : World) (h : RowP 3 w B A n c f) (hB : B ≤ w.heap.size) :
    Calls Try.prog 51 #[.agg #[.int .i64 s, .slice A n c]] w fun e w' => e = .returned (.bool (blockOk s n f)) ∧ Below w.heap.size w w' := by
  have hcap := h.cap
  unfold maxLen at hcap
  have hb0 : Below w.heap.size w (w.alloc (.cells #[.int .i64 s, .slice A n c] 31)) := (Below.refl _ _).alloc (Nat.le_refl _) _
  have hx0 : BoxB (w.alloc (.cells #[.int .i64 s, .slice A n c] 31)) w.heap.size s (.slice A n c) := ⟨by simp, by go_simp, by go_simp⟩
  rcases inB_or s 1 4 with ⟨hI, s1, s2⟩ | hI
  · have hq := sq4 s1 s2
    rcases Bool.eq_false_or_eq_true ((n : Int) == s * s) with hn | hn
    · have HN := Lib.hid (beq_iff_eq.1 hn)
      have hn2 : ((n : Int) != s * s) = false := by simp [bne, hn]
      have n16 : n ≤ 16 := by have := HN.out; omega
      have HI := Lib.hid hI
      have HNB := Lib.hid hn
      go_enter Try.func51, Try.ntmps51
      go_wp2_with (go_at_call 50; refine (l01In_any _ _ _ _).mono ?_; rintro e w' ⟨rfl, rfl⟩)
      clear hI hn hn2
      go_loopw [3] (fun i wr => ∃ k : Nat, k ≤ n ∧ i = .int .i64 k ∧ Hid (cellsOk f k = true) ∧ BoxB wr w.heap.size s (.slice A n c) ∧ Below w.heap.size w wr) (fun i _ => n - (intOf i).toNat)
      case atStart => exact ⟨0, by omega, rfl, Lib.hid rfl, hx0, hb0⟩
      case round =>
        clear hx0 hb0
        obtain ⟨k, hk, rfl, hC, hbx, hb⟩ := hrel
        have hbw := hb.size
        obtain ⟨hz, hz0, hz1⟩ := id hbx
        by_cases hlt : k < n
        · have h2 : RowP 3 wr B A n c f := h.keep fun p hp => hb.cell (by omega)
          obtain ⟨b, off, rfl, hbB, hc⟩ := h2.at_ hlt
          have x0 : wr.cell? ⟨b, off + k * 3, none⟩ = some (.int .i64 (f k 0)) := by exact hc 0 (by omega)
          have x1 : wr.cell? ⟨b, off + k * 3 + 1, none⟩ = some (.int .i64 (f k 1)) := by rw [Nat.add_assoc]; exact hc 1 (by omega)
          have x2 : wr.cell? ⟨b, off + k * 3 + 2, none⟩ = some (.int .i64 (f k 2)) := by rw [Nat.add_assoc]; exact hc 2 (by omega)
          have k0 : (0 : Int) ≤ (k : Int) := by omega
          have k3 : (k : Int) < (n : Int) := by omega
          clear hc h2
          go_wp2_with fail
          refine (spec_cellOk (f k) _).mono ?_
          rintro e w2 ⟨rfl, hb2⟩
          have hb3 := hb.trans (hb2.mono (by omega))
          have hbx2 := hbx.below hb2 hbx.1
          clear hb hb2 hbx x0 x1 x2 hz hz0 hz1
          rcases Bool.eq_false_or_eq_true (cellOk (f k)) with a | a
          · have HC := Lib.hid (show cellsOk f (k + 1) = true from allTo_step (p := fun k => cellOk (f k)) hC.out a)
            rw [a]
            clear a
            go_wp2
            go_roundw
            case rel => exact ⟨k + 1, by omega, by go_num, HC, hbx2, hb3⟩
            case measure => simp [intOf]; omega
          · have HE := Lib.hid (show blockOk s n f = false from block_no hlt a)
            rw [a]
            clear a
            go_wp2
            go_ret
            exact ⟨ret_bool HE.out.symm, hb3⟩
        · have HE := Lib.hid (show blockOk s n f = true by have e := hC.out; rw [show k = n by omega] at e; unfold blockOk; rw [HI.out, HNB.out, e]; rfl)
          have k3 : ¬ (k : Int) < (n : Int) := by omega
          go_wp2
          go_ret
          exact ⟨ret_bool HE.out.symm, hb⟩
    · have HE := Lib.hid (show blockOk s n f = false by unfold blockOk; rw [hn, Bool.and_false]; rfl)
      have hn2 : ((n : Int) != s * s) = true := by simp [bne, hn]
      go_enter Try.func51, Try.ntmps51
      go_wp2_with (go_at_call 50; refine (l01In_any _ _ _ _).mono ?_; rintro e w' ⟨rfl, rfl⟩)
      go_ret
      exact ⟨ret_bool HE.out.symm, hb0⟩
  · have HE := Lib.hid (show blockOk s n f = false by unfold blockOk; rw [hI]; rfl)
    go_enter Try.func51, Try.ntmps51
    go_wp2_with (go_at_call 50; refine (l01In_any _ _ _ _).mono ?_; rintro e w' ⟨rfl, rfl⟩)
    go_ret
    exact ⟨ret_bool HE.out.symm, hb0⟩
end Go.Proofs.Ythenjmjnooaokaa
