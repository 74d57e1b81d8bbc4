/- Contracts of the law's functions on slices of spots. -/
import Derived.Test.YtheafiaemcmjaaaDoorStrs
import Derived.Test.YtheafiaemcmjaaaDoorInts
import Derived.Deep.RegionHeld3
import Derived.Outline
namespace Go.Proofs.YtheafiaemcmjaaaDoor
open Go.ChangeShapes Go.WideShapes Go.ChangeAt Go.RowKit
theorem grownS_stepq {w wr : World} {g : Nat} (hg : w.grownBy wr (blk (some ⟨g, 0, none⟩))) (j : Nat) (x : Value) : w.grownBy (wr.setCell ⟨g, j, none⟩ x) (blk (some ⟨g, 0, none⟩)) :=
  ⟨hg.os, hg.tape, hg.output, by simpa [World.setCell] using hg.size, fun i hi hne => (Below.heap_setCell wr ⟨g, j, none⟩ _ i (by intro e; exact hne (by rw [e]; rfl))).trans (hg.block i hi hne)⟩
theorem to_spot (f : Nat → Int) (w : World) : Calls Tryd.prog 63 #[.agg #[.int .i64 (f 0), .int .i64 (f 1)]] w fun e w' => e = .returned (.agg #[.int .i64 (f 0), .int .i64 (f 1)]) ∧ Below w.heap.size w w' := by
  go_enter Tryd.func63, Tryd.ntmps63
  go_wp2
  exact bodyPost_ret (v := .agg #[.int .i64 (f 0), .int .i64 (f 1)]) (by simp [results, Tryd.results63, go_sem]) rfl ⟨rfl, (((Below.refl _ _).alloc (Nat.le_refl _) _).alloc (by simp) _).alloc (by simp; omega) _⟩
theorem partS_step_spot (f : Nat → Nat → Int) (k i j : Nat) (hj : j < 2) : (upd2 (upd2 (partS f k) k 0 (f k 0)) k 1 (f k 1)) i j = partS f (k + 1) i j := by
  simp only [upd2, partS]
  by_cases e : i = k
  · subst e
    rw [if_pos (Nat.lt_succ_self i)]
    match j, hj with
    | 0, _ => simp
    | 1, _ => simp
  · simp only [e, false_and, if_false]
    by_cases h : i < k
    · rw [if_pos h, if_pos (by omega)]
    · rw [if_neg h, if_neg (by omega)]
theorem info_spot : (Tryd.prog.info? 64).map (fun i => (i.zero, i.size, i.bytes)) = some (some (.agg #[.int .i64 0, .int .i64 0]), 2, 16) := by kernel_rfl
theorem sz_spots (A : Option Addr) (n c : Nat) (k : Int) (w : World) (hk : 0 ≤ k) (hk2 : k ≤ 1000000000) (hn : n ≤ 9223372036854775807) :
    Calls Tryd.prog 37 #[.slice A n c, .int .i64 k] w fun e w' => e = .returned (.int .i64 (if k < n then -1 else k - n)) ∧ w = w' := by
  rcases (by omega : k < (n : Int) ∨ (n : Int) ≤ k) with h | h
  · go_enter Tryd.func37, Tryd.ntmps37
    go_wp2
    go_ret
    exact ⟨ret_int (by first | rfl | (rw [if_pos h])), rfl⟩
  · go_enter Tryd.func37, Tryd.ntmps37
    go_wp2
    go_ret
    exact ⟨ret_int (by first | rfl | (rw [if_neg (by omega)])), rfl⟩
set_option maxHeartbeats 4000000 in
theorem to_spots (A : Option Addr) (n c : Nat) (f : Nat → Nat → Int) (B : Nat) (w : World) (hr : RowP 2 w B A n c f) (hB : B ≤ w.heap.size) (hn : n ≤ 1048576) :
    Calls Tryd.prog 40 #[.slice A n c] w fun e w' => e = .returned (.slice (some ⟨w.heap.size, 0, none⟩) n n) ∧ OwnS 2 64 w' w.heap.size (.slice (some ⟨w.heap.size, 0, none⟩) n n) n f ∧ Below w.heap.size w w' := by
  obtain ⟨i0, hi, hz0, hz1, hz2⟩ := info_parts info_spot
  go_enter Tryd.func40, Tryd.ntmps40
  go_wp2_with (refine wpList_make_full _ rfl _ _ 33 rfl w.heap.size 64 i0 (.agg #[.int .i64 0, .int .i64 0]) 2 Tryd.underlying33 hi hz0 hz1 .i64 .i64 _ _ n rfl rfl rfl rfl (by rw [hz2]; omega) (by unfold maxLen; omega) (Nat.le_refl _) ?_; intro w1 hown hgrow)
  have hown1 : OwnS 2 64 w1 w.heap.size (.slice (some ⟨w.heap.size, 0, none⟩) n n) n (partS f 0) := (ownS_made (by rfl) (by decide) (by intro j hj; match j, hj with | 0, _ => rfl | 1, _ => rfl) hown).congr (by decide) (fun i _ j _ => (if_neg (by omega)).symm)
  have hb1 : Below w.heap.size w w1 := (Below.refl _ _).grown hgrow (Nat.le_refl _) (fun k h => by cases h)
  clear hown hgrow
  go_loopw [4] (fun i wr => ∃ k : Nat, k ≤ n ∧ i = .int .i64 k ∧ OwnS 2 64 wr w.heap.size (.slice (some ⟨w.heap.size, 0, none⟩) n n) n (partS f k) ∧ Below w.heap.size w wr) (fun i _ => n - (intOf i).toNat)
  case atStart => exact ⟨0, Nat.zero_le _, rfl, hown1, hb1⟩
  case round =>
    obtain ⟨k, hk, rfl, hown, hb⟩ := hrel
    clear hown1 hb1
    by_cases hlt : k < n
    · have h2 : RowP 2 wr B A n c f := hr.keep fun p hp => hb.cell (by omega)
      obtain ⟨b', off, rfl, hbB, hc⟩ := h2.at_ hlt
      have k0 : (0 : Int) ≤ (k : Int) := by omega
      have k3 : (k : Int) < (n : Int) := by omega
      have x0 : wr.cell? ⟨b', off + k * 2, none⟩ = some (.int .i64 (f k 0)) := by exact hc 0 (by omega)
      have x1 : wr.cell? ⟨b', off + k * 2 + 1, none⟩ = some (.int .i64 (f k 1)) := by rw [Nat.add_assoc]; exact hc 1 (by omega)
      clear hc h2
      go_wp2_with fail
      refine (to_spot (f k) _).mono ?_
      rintro e w2 ⟨rfl, hb2⟩
      have hown2 := hown.keep hb2
      have hb3 := hb.trans (hb2.mono hb.size)
      have hz2 := hb2.size
      have y0 : w2.cell? ⟨w.heap.size, k * 2, none⟩ = some (.int .i64 (partS f k k 0)) := hown2.cellAt (j := 0) hlt (by omega)
      have e0 := hown2.frozenAt (k * 2)
      have y1 : w2.cell? ⟨w.heap.size, k * 2 + 1, none⟩ = some (.int .i64 (partS f k k 1)) := hown2.cellAt (j := 1) hlt (by omega)
      have e1 := hown2.frozenAt (k * 2 + 1)
      have hown3 := ((hown2.stored (i := k) (j := 0) (by omega) (f k 0)).stored (i := k) (j := 1) (by omega) (f k 1))
      have hb4 := ((hb3.setCell (p := ⟨w.heap.size, k * 2 + 0, none⟩) (Nat.le_refl _) (.int .i64 (f k 0))).setCell (p := ⟨w.heap.size, k * 2 + 1, none⟩) (Nat.le_refl _) (.int .i64 (f k 1)))
      have hown4 : OwnS 2 64 _ w.heap.size (.slice (some ⟨w.heap.size, 0, none⟩) n n) n (partS f (k + 1)) := hown3.congr (by decide) (fun i hi j hj => partS_step_spot f k i j hj)
      clear hown hown2 hown3 hb hb2 hb3
      go_wp2
      go_roundw
      case rel => exact ⟨k + 1, by omega, by go_num, hown4, hb4⟩
      case measure => simp [intOf]; omega
    · have hfin : OwnS 2 64 wr w.heap.size (.slice (some ⟨w.heap.size, 0, none⟩) n n) n f := hown.congr (by decide) (fun i hi j hj => if_pos (by omega))
      clear hown
      go_wp2
      go_ret
      exact ⟨rfl, hfin, hb⟩
theorem eq_spot (f : Nat → Int) (w : World) : Calls Tryd.prog 66 #[.agg #[.int .i64 (f 0), .int .i64 (f 1)], .agg #[.int .i64 (f 0), .int .i64 (f 1)]] w fun e w' => e = .returned (.bool true) ∧ Below w.heap.size w w' := by
  go_enter Tryd.func66, Tryd.ntmps66
  go_wp2
  go_ret
  exact ⟨rfl, ((Below.refl _ _).alloc (Nat.le_refl _) _).alloc (by simp) _⟩
set_option maxHeartbeats 4000000 in
/-- two slices of the same structs are found equal -/
theorem eq_spots (A A' : Option Addr) (n c c' : Nat) (f : Nat → Nat → Int) (B B' : Nat) (w : World) (h : RowP 2 w B A n c f) (h' : RowP 2 w B' A' n c' f) (hB : B ≤ w.heap.size) (hB' : B' ≤ w.heap.size) :
    Calls Tryd.prog 43 #[.slice A n c, .slice A' n c'] w fun e w' => e = .returned (.bool true) ∧ Below w.heap.size w w' := by
  have hcap := h.cap
  unfold maxLen at hcap
  go_enter Tryd.func43, Tryd.ntmps43
  go_wp2_with fail
  go_loopw [5] (fun i wr => ∃ k : Nat, k ≤ n ∧ i = .int .i64 k ∧ Below w.heap.size w wr ∧ RowP 2 wr B A n c f ∧ RowP 2 wr B' A' n c' f) (fun i _ => n - (intOf i).toNat)
  case atStart => exact ⟨0, Nat.zero_le _, rfl, Below.refl _ _, h, h'⟩
  case round =>
    clear h h'
    obtain ⟨k, hk, rfl, hb, h, h'⟩ := hrel
    by_cases hlt : k < n
    · obtain ⟨b, off, rfl, hbB, hc⟩ := h.at_ hlt
      obtain ⟨b', off', rfl, hbB', hc'⟩ := h'.at_ hlt
      have x0 : wr.cell? ⟨b, off + k * 2, none⟩ = some (.int .i64 (f k 0)) := by exact hc 0 (by omega)
      have x1 : wr.cell? ⟨b, off + k * 2 + 1, none⟩ = some (.int .i64 (f k 1)) := by rw [Nat.add_assoc]; exact hc 1 (by omega)
      have y0 : wr.cell? ⟨b', off' + k * 2, none⟩ = some (.int .i64 (f k 0)) := by exact hc' 0 (by omega)
      have y1 : wr.cell? ⟨b', off' + k * 2 + 1, none⟩ = some (.int .i64 (f k 1)) := by rw [Nat.add_assoc]; exact hc' 1 (by omega)
      have i0 : (0 : Int) ≤ (k : Int) := by omega
      have i1 : (k : Int) < (n : Int) := by omega
      have hsz := hb.size
      have l1 : b < wr.heap.size := by omega
      have l2 : b' < wr.heap.size := by omega
      clear hc hc'
      go_wp2_with fail
      go_region_held3 (fun w' => w'.cell? ⟨b, off + k * 2, none⟩ = some (.int .i64 (f k 0)) ∧ w'.cell? ⟨b, off + k * 2 + 1, none⟩ = some (.int .i64 (f k 1)) ∧ w'.cell? ⟨b', off' + k * 2, none⟩ = some (.int .i64 (f k 0)) ∧ w'.cell? ⟨b', off' + k * 2 + 1, none⟩ = some (.int .i64 (f k 1))) (first | go_keep | (exact ⟨s0, s1, s2, s3⟩)) (first | (go_at_call 66; ((with_reducible refine (eq_spot (f k) _).mono ?_); rintro e wc0 ⟨rfl, hbc0⟩); replace hbc0 := below_drew hbc0; obtain ⟨hcc0, hfc0⟩ := bcell hbc0; have s0 := (hcc0 b (off + k * 2) l1).trans x0; have s1 := (hcc0 b (off + k * 2 + 1) l1).trans x1; have s2 := (hcc0 b' (off' + k * 2) l2).trans y0; have s3 := (hcc0 b' (off' + k * 2 + 1) l2).trans y1))
      have b5 : Below w.heap.size w wc0 := hb.trans (hbc0.mono hb.size)
      have h5 : RowP 2 wc0 B (some ⟨b, off, none⟩) n c f := h.keep fun p hp => hbc0.cell (by omega)
      have h6 : RowP 2 wc0 B' (some ⟨b', off', none⟩) n c' f := h'.keep fun p hp => hbc0.cell (by omega)
      clear hbc0 hcc0 hfc0 hb h h' x0 y0 x1 y1
      go_wp2
      go_roundw
      case rel => exact ⟨k + 1, by omega, by go_num, b5, h5, h6⟩
      case measure => simp [intOf]; omega
    · go_wp2
      go_ret
      exact ⟨rfl, hb⟩
theorem markedS_step_spot (k : Int) (f : Nat → Nat → Int) (i a b : Nat) (hb : b < 2) : (upd2 (upd2 (markedS 2 k f i) i 0 (k + 2 * (i : Int))) i 1 (k + 2 * (i : Int) + 1)) a b = markedS 2 k f (i + 1) a b := by
  simp only [upd2, markedS, marksS]
  by_cases e : a = i
  · subst e
    rw [if_pos (Nat.lt_succ_self a)]
    match b, hb with
    | 0, _ => simp; try omega
    | 1, _ => simp; try omega
  · simp only [e, false_and, if_false]
    by_cases h : a < i
    · rw [if_pos h, if_pos (by omega)]
    · rw [if_neg h, if_neg (by omega)]
set_option maxHeartbeats 4000000 in
/-- a slice of structs of the call's own is marked: nothing else is written -/
theorem mark_spots (A : Option Addr) (n c : Nat) (f : Nat → Nat → Int) (base : Nat) (k : Int) (w : World) (h : OwnS 2 64 w base (.slice A n c) n f) (hn : n ≤ 1048576) (hk : 0 ≤ k) (hk2 : k ≤ 1000000000) :
    Calls Tryd.prog 52 #[.slice A n c, .int .i64 k] w fun e w' => e = .returned (.int .i64 (k + 2 * n)) ∧ OwnS 2 64 w' base (.slice A n c) n (marksS 2 k) ∧ w.grownBy w' (blk A) := by
  have h0 : OwnS 2 64 w base (.slice A n c) n (markedS 2 k f 0) := h.congr (by decide) fun i _ j _ => (if_neg (by omega)).symm
  have hform := h.form
  clear h
  go_enter Tryd.func52, Tryd.ntmps52
  go_wp2_with fail
  go_loopw [1, 5] (fun q i wr => ∃ j : Nat, j ≤ n ∧ i = .int .i64 j ∧ q = .int .i64 (k + 2 * (j : Int)) ∧ OwnS 2 64 wr base (.slice A n c) n (markedS 2 k f j) ∧ w.grownBy wr (blk A)) (fun _ i _ => n - (intOf i).toNat)
  case atStart => exact ⟨0, Nat.zero_le _, rfl, by simp, h0, World.grownBy.refl _ _⟩
  case round =>
    clear h0
    obtain ⟨i, hj, rfl, rfl, hown, hg⟩ := hrel
    by_cases hlt : i < n
    · obtain ⟨g, rfl⟩ := hown.some_ (by omega)
      have y0 : wr.cell? ⟨g, i * 2, none⟩ = some (.int .i64 (markedS 2 k f i i 0)) := hown.cellAt (j := 0) hlt (by omega)
      have e0 := hown.frozenAt (i * 2)
      have y1 : wr.cell? ⟨g, i * 2 + 1, none⟩ = some (.int .i64 (markedS 2 k f i i 1)) := hown.cellAt (j := 1) hlt (by omega)
      have e1 := hown.frozenAt (i * 2 + 1)
      have hown3 := ((hown.stored (i := i) (j := 0) (by omega) (k + 2 * (i : Int))).stored (i := i) (j := 1) (by omega) (k + 2 * (i : Int) + 1))
      have hown4 := hown3.congr (by decide) (fun a ha b hb => markedS_step_spot k f i a b hb)
      have hg4 := (grownS_stepq (grownS_stepq hg (i * 2) (.int .i64 (k + 2 * (i : Int)))) (i * 2 + 1) (.int .i64 (k + 2 * (i : Int) + 1)))
      have i0 : (0 : Int) ≤ (i : Int) := by omega
      have i1 : (i : Int) < (n : Int) := by omega
      clear hown hown3 hg hform
      go_wp2
      go_roundw
      case rel => exact ⟨i + 1, by omega, by go_num, by congr 1; omega, hown4, hg4⟩
      case measure => simp [intOf]; omega
    · have hfin : OwnS 2 64 wr base (.slice A n c) n (marksS 2 k) := hown.congr (by decide) fun a ha b hb => if_pos (by omega)
      have HE := Lib.hid (show (i : Int) = n by omega)
      clear hown
      go_wp2
      go_ret
      exact ⟨ret_int (by rw [HE.out]), hfin, hg⟩
end Go.Proofs.YtheafiaemcmjaaaDoor
