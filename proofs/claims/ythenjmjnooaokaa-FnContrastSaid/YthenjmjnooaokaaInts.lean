/- Contracts of the small functions on slices of integers. -/
import Derived.Test.YthenjmjnooaokaaNum
import Derived.Test.YthenjmjnooaokaaPureB
import Derived.Outline
import Derived.Deep.QuietTactic
import Derived.BigQuiet
namespace Go.Proofs.Ythenjmjnooaokaa
open Go.ChangeShapes Go.WideShapes Go.ChangeAt Go.RowKit
theorem all_any (A : Option Addr) (n c : Nat) (zs : List Int) (a b : Int) (B : Nat) (w : World) (hr : RowI .i64 w B A n c zs) :
    Calls Try.prog 81 #[.slice A n c, .int .i64 a, .int .i64 b] w fun e w' => e = .returned (.bool (allIn zs a b)) ∧ w = w' := by
  have hcap := hr.cap
  unfold maxLen at hcap
  go_enter Try.func81, Try.ntmps81
  go_wp2_with fail
  go_loop [8, 11] (fun _ i => ∃ k : Nat, k ≤ n ∧ i = .int .i64 k ∧ allIn (zs.take k) a b = true) (fun _ i => n - (intOf i).toNat)
  case atStart => exact ⟨0, Nat.zero_le _, rfl, rfl⟩
  case round =>
    obtain ⟨k, hk, rfl, hall⟩ := hrel
    by_cases hlt : k < n
    · obtain ⟨b', off, rfl, _, hc⟩ := hr.at_ hlt
      have HA := Lib.hid hall
      clear hall
      rcases inB_or (nth zs k) a b with ⟨hA, a1, a2⟩ | hA
      · go_wp2_with (go_at_call 52; refine (within_any _ _ _ _).mono ?_; rintro e w' ⟨rfl, rfl⟩)
        go_round
        case rel => exact ⟨k + 1, by omega, by go_num, allIn_snoc (by rw [hr.len]; exact hlt) HA.out hA⟩
        case measure => simp [intOf]; omega
      · go_wp2_with (go_at_call 52; refine (within_any _ _ _ _).mono ?_; rintro e w' ⟨rfl, rfl⟩)
        go_ret
        exact ⟨ret_bool (allIn_no (by rw [hr.len]; exact hlt) hA).symm, rfl⟩
    · have HA := Lib.hid hall
      clear hall
      go_wp2
      go_ret
      exact ⟨ret_bool (by rw [← HA.out, List.take_of_length_le (by rw [hr.len]; omega)]), rfl⟩
/-- A slice of integers that the call itself made: its elements, in a block from base on. -/
def OwnI (w : World) (base : Nat) (v : Value) (zs : List Int) : Prop := w.ownsRow base 3 1 v zs.length (zs.map (Value.int .i64))
theorem info_int : (Try.prog.info? 3).map (fun i => (i.zero, i.size, i.bytes)) = some (some (.int .i64 0), 1, 8) := by kernel_rfl
theorem map_nth (zs : List Int) (j : Nat) (hj : j < zs.length) : (zs.map (Value.int .i64))[j]? = some (.int .i64 (nth zs j)) := by
  rw [List.getElem?_map, nth_get? hj]; rfl
theorem OwnI.cellAt {w : World} {base g n c : Nat} {zs : List Int} (h : OwnI w base (.slice (some ⟨g, 0, none⟩) n c) zs) {j : Nat} (hj : j < zs.length) : w.cell? ⟨g, j, none⟩ = some (.int .i64 (nth zs j)) := by
  obtain ⟨h1, h2⟩ := h
  rcases h2 with ⟨h', _⟩ | ⟨g', cap', cur, h', _, hg, _, _, _, htake⟩
  · simp at h'
  · simp only [Value.slice.injEq, Option.some.injEq, Addr.mk.injEq, and_true] at h'
    obtain ⟨rfl, rfl, rfl⟩ := h'
    rw [cell_of_row w g j cur _ (0, 0) hg, ← map_nth zs j hj, ← htake, List.getElem?_take, if_pos (by omega)]
    simp
theorem OwnI.row {w : World} {base : Nat} {v : Value} {zs : List Int} (h : OwnI w base v zs) (hf : ∀ z ∈ zs, (Lit.int .i64 z).wf = true) : ∃ A c, v = .slice A zs.length c ∧ RowI .i64 w w.heap.size A zs.length c zs := by
  rcases h.2 with ⟨rfl, hn⟩ | ⟨g, cap, cur, rfl, hb, hg, hnc, hcm, hcs, htake⟩
  · refine ⟨none, 0, by rw [hn], rfl, by omega, Nat.zero_le _, hf, fun hh => absurd hh (by omega)⟩
  · refine ⟨_, _, rfl, rfl, hnc, hcm, hf, fun hh => ⟨g, 0, rfl, (Array.getElem?_eq_some_iff.1 hg).1, fun j hj => ?_⟩⟩
    rw [Nat.zero_add]
    exact OwnI.cellAt (base := base) ⟨h.1, .inr ⟨g, cap, cur, rfl, hb, hg, hnc, hcm, hcs, htake⟩⟩ hj
theorem OwnI.size {w : World} {base g n c : Nat} {zs : List Int} (h : OwnI w base (.slice (some ⟨g, 0, none⟩) n c) zs) : n = zs.length := by
  rcases h.2 with ⟨h', _⟩ | ⟨g', cap', cur, h', _⟩
  · simp at h'
  · simp only [Value.slice.injEq] at h'
    exact h'.2.1
theorem OwnI.ge {w : World} {base g n c : Nat} {zs : List Int} (h : OwnI w base (.slice (some ⟨g, 0, none⟩) n c) zs) : base ≤ g ∧ g < w.heap.size := World.ownsRow.lt h g rfl
theorem OwnI.frozenAt {w : World} {base g n c : Nat} {zs : List Int} (h : OwnI w base (.slice (some ⟨g, 0, none⟩) n c) zs) (j : Nat) : w.frozen? ⟨g, j, none⟩ = false := by
  have e := h.size
  subst e
  exact World.ownsRow.frozenAt h j
theorem OwnI.stored {w : World} {base g n c : Nat} {zs : List Int} (h : OwnI w base (.slice (some ⟨g, 0, none⟩) n c) zs) (j : Nat) (x : Int) :
    OwnI (w.setCell ⟨g, j, none⟩ (.int .i64 x)) base (.slice (some ⟨g, 0, none⟩) n c) (zs.set j x) := by
  have e := h.size
  subst e
  have := (World.ownsRow.stored h j (.int .i64 x)).1
  unfold OwnI
  rw [List.length_set, List.map_set]
  exact this
theorem OwnI.below {w w' : World} {base B : Nat} {v : Value} {zs : List Int} (h : OwnI w base v zs) (hb : Below B w w') (hB : ∀ k, v.ownBlock = some k → k < B) : OwnI w' base v zs := by
  refine ⟨h.1, ?_⟩
  rcases h.2 with hn | ⟨g, cap, cur, rfl, hbb, hgg, rest⟩
  · exact .inl hn
  · refine .inr ⟨g, cap, cur, rfl, hbb, ?_, rest⟩
    rw [hb.block g (hB g rfl)]
    exact hgg
theorem OwnI.base {w : World} {base base' : Nat} {v : Value} {zs : List Int} (h : OwnI w base v zs) (hb : base' ≤ base) : OwnI w base' v zs := by
  refine ⟨h.1, ?_⟩
  rcases h.2 with hn | ⟨g, cap, cur, hv, hbb, rest⟩
  · exact .inl hn
  · exact .inr ⟨g, cap, cur, hv, by omega, rest⟩
theorem owns_zero {w : World} {base g n : Nat} (zs : List Int) (hz : zs.length = n) (h : w.ownsRow base 3 1 (.slice (some ⟨g, 0, none⟩) n n) n (madeCells (Value.int .i64 0).cells (n * 1)).toList) :
    OwnI w base (.slice (some ⟨g, 0, none⟩) n n) (filled zs 0) := by
  have e : (madeCells (Value.int .i64 0).cells (n * 1)).toList = (filled zs 0).map (Value.int .i64) := by
    rw [filled_zero, List.map_replicate, Nat.mul_one, hz]
    exact toList_madeCells_one _ _
  unfold OwnI
  rw [← e, filled_len zs (Nat.zero_le _), hz]
  exact h
set_option maxHeartbeats 400000 in
theorem to_ints (A : Option Addr) (n c : Nat) (zs : List Int) (B : Nat) (w : World) (hr : RowI .i64 w B A n c zs) (hB : B ≤ w.heap.size) (hn : n ≤ 1048576) :
    Calls Try.prog 24 #[.slice A n c] w fun e w' => e = .returned (.slice (some ⟨w.heap.size, 0, none⟩) n n) ∧ OwnI w' w.heap.size (.slice (some ⟨w.heap.size, 0, none⟩) n n) zs ∧ Below w.heap.size w w' := by
  obtain ⟨i0, hi, hz0, hz1, hz2⟩ := info_parts info_int
  have HL := Lib.hid hr.len
  go_enter Try.func24, Try.ntmps24
  go_wp2_with (refine wpList_make_full _ rfl _ _ 44 rfl w.heap.size 3 i0 (.int .i64 0) 1 Try.underlying44 hi hz0 hz1 .i64 .i64 _ _ n rfl rfl rfl rfl (by rw [hz2]; omega) (by unfold maxLen; omega) (Nat.le_refl _) ?_; intro w1 hown hgrow)
  have hown1 := owns_zero zs HL.out hown
  have hb1 : Below w.heap.size w w1 := (Below.refl _ _).grown hgrow (Nat.le_refl _) (fun k h => by cases h)
  clear hown hgrow
  go_loopw [4] (fun i wr => ∃ k : Nat, k ≤ n ∧ i = .int .i64 k ∧ OwnI wr w.heap.size (.slice (some ⟨w.heap.size, 0, none⟩) n n) (filled zs k) ∧ Below w.heap.size w wr) (fun i _ => n - (intOf i).toNat)
  case atStart => exact ⟨0, Nat.zero_le _, rfl, hown1, hb1⟩
  case round =>
    obtain ⟨k, hk, rfl, hown, hb⟩ := hrel
    clear hown1 hb1
    by_cases hlt : k < n
    · obtain ⟨b', off, rfl, hbB, hc⟩ := hr.at_ hlt
      have hc' := (hb.cell (p := ⟨b', off + k, none⟩) (by exact Nat.lt_of_lt_of_le hbB hB)).trans hc
      have hq := hown.cellAt (j := k) (by rw [filled_len zs (by rw [HL.out]; omega), HL.out]; exact hlt)
      have hf := hown.frozenAt k
      have hown2 := hown.stored k (nth zs k)
      rw [filled_set (by rw [HL.out]; exact hlt)] at hown2
      have hb2 := hb.setCell (p := ⟨w.heap.size, k, none⟩) (Nat.le_refl _) (.int .i64 (nth zs k))
      clear hc hown
      go_wp2
      go_roundw
      case rel => exact ⟨k + 1, by omega, by go_num, hown2, hb2⟩
      case measure => simp [intOf]; omega
    · have e : k = zs.length := by rw [HL.out]; omega
      have hown2 : OwnI wr w.heap.size (.slice (some ⟨w.heap.size, 0, none⟩) n n) zs := by
        have := hown
        rw [e, filled_all] at this
        exact this
      clear hown e
      go_wp2
      go_ret
      exact ⟨rfl, hown2, hb⟩
theorem OwnI.keep {w w' : World} {base : Nat} {v : Value} {zs : List Int} (h : OwnI w base v zs) (hb : Below w.heap.size w w') : OwnI w' base v zs :=
  h.below hb fun k hk => (World.ownsRow.lt h k hk).2
theorem OwnI.grown {w w' : World} {base g : Nat} {v : Value} {zs : List Int} (h : OwnI w base v zs) (hg : w.grownBy w' (some g)) (hne : g < base) : OwnI w' base v zs := by
  refine ⟨h.1, ?_⟩
  rcases h.2 with hn | ⟨g', cap, cur, rfl, hbb, hgg, rest⟩
  · exact .inl hn
  · refine .inr ⟨g', cap, cur, rfl, hbb, ?_, rest⟩
    rw [hg.block g' (Array.getElem?_eq_some_iff.1 hgg).1 (by intro e; injection e with e; omega)]
    exact hgg
/-- two slices of the same numbers are found equal -/
theorem eq_ints (A A' : Option Addr) (n c c' : Nat) (zs : List Int) (B B' : Nat) (w : World) (h : RowI .i64 w B A n c zs) (h' : RowI .i64 w B' A' n c' zs) :
    Calls Try.prog 26 #[.slice A n c, .slice A' n c'] w fun e w' => e = .returned (.bool true) ∧ Below w.heap.size w w' := by
  have hcap := h.cap
  unfold maxLen at hcap
  go_enter Try.func26, Try.ntmps26
  go_wp2_with fail
  go_loopw [5] (fun i wr => ∃ k : Nat, k ≤ n ∧ i = .int .i64 k ∧ Below w.heap.size w wr ∧ RowI .i64 wr B A n c zs ∧ RowI .i64 wr B' A' n c' zs) (fun i _ => n - (intOf i).toNat)
  case atStart => exact ⟨0, Nat.zero_le _, rfl, Below.refl _ _, h, h'⟩
  case round =>
    clear h h'
    obtain ⟨k, hk, rfl, hb, h, h'⟩ := hrel
    by_cases hlt : k < n
    · obtain ⟨b, off, rfl, _, hc⟩ := h.at_ hlt
      obtain ⟨b', off', rfl, _, hc'⟩ := h'.at_ hlt
      have i0 : (0 : Int) ≤ (k : Int) := by omega
      have i1 : (k : Int) < (n : Int) := by omega
      go_wp2_with fail
      go_quiet (fail)
      go_wp2
      go_roundw
      case rel => exact ⟨k + 1, by omega, by go_num, ⟨hb.os, hb.tape, hb.output, hb.size, hb.block⟩, h, h'⟩
      case measure => simp [intOf]; omega
    · go_wp2
      go_ret
      exact ⟨rfl, hb⟩
/-- the block of a slice's address -/
def blk (A : Option Addr) : Option Nat := A.map (·.block)
theorem OwnI.form {w : World} {base n c : Nat} {A : Option Addr} {zs : List Int} (h : OwnI w base (.slice A n c) zs) : n = zs.length ∧ (A = none ∧ n = 0 ∨ ∃ g, A = some ⟨g, 0, none⟩) := by
  rcases h.2 with ⟨h', hn⟩ | ⟨g', cap', cur, h', _⟩
  · simp only [Value.slice.injEq] at h'
    obtain ⟨rfl, rfl, _⟩ := h'
    exact ⟨hn.symm, .inl ⟨rfl, rfl⟩⟩
  · simp only [Value.slice.injEq] at h'
    obtain ⟨rfl, rfl, _⟩ := h'
    exact ⟨rfl, .inr ⟨g', rfl⟩⟩
theorem OwnI.ge' {w : World} {base n c : Nat} {A : Option Addr} {zs : List Int} (h : OwnI w base (.slice A n c) zs) : ∀ k, blk A = some k → base ≤ k ∧ k < w.heap.size := by
  intro k hk
  refine World.ownsRow.lt h k ?_
  cases A with
  | none => cases hk
  | some a => exact hk
theorem OwnI.rowI {w : World} {base n c : Nat} {A : Option Addr} {zs : List Int} (h : OwnI w base (.slice A n c) zs) (hf : ∀ z ∈ zs, (Lit.int .i64 z).wf = true) : RowI .i64 w w.heap.size A n c zs := by
  obtain ⟨A', c', e, hr⟩ := h.row hf
  simp only [Value.slice.injEq] at e
  obtain ⟨rfl, rfl, rfl⟩ := e
  exact hr
theorem OwnI.apart {w w' : World} {base n c : Nat} {A A' : Option Addr} {zs : List Int} (h : OwnI w base (.slice A n c) zs) (hg : w.grownBy w' (blk A')) (hne : ∀ k, blk A = some k → blk A' = some k → False) : OwnI w' base (.slice A n c) zs := by
  obtain ⟨_, hf⟩ := h.form
  refine ⟨h.1, ?_⟩
  rcases h.2 with hn | ⟨g', cap, cur, hv, hbb, hgg, rest⟩
  · exact .inl hn
  · refine .inr ⟨g', cap, cur, hv, hbb, ?_, rest⟩
    simp only [Value.slice.injEq] at hv
    obtain ⟨rfl, _, _⟩ := hv
    rw [hg.block g' (Array.getElem?_eq_some_iff.1 hgg).1 (fun e => hne g' rfl e.symm)]
    exact hgg
end Go.Proofs.Ythenjmjnooaokaa
