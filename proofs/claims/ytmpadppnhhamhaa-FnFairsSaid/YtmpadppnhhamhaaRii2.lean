/- Contracts of the laws' own functions on slices of slices of integers: copy, size, equality, marks. -/
import Derived.Test.YtmpadppnhhamhaaRii
namespace Go.Proofs.Ytmpadppnhhamhaa
open Go.ChangeShapes Go.WideShapes Go.ChangeAt Go.RowKit
/-- how many numbers lie in the first n rows -/
def total (z : Nat → List Int) : Nat → Nat
  | 0 => 0
  | n + 1 => total z n + (z n).length
theorem total_mono (z : Nat → List Int) {a b : Nat} (h : a ≤ b) : total z a ≤ total z b := by
  induction h with
  | refl => exact Nat.le_refl _
  | step _ ih => exact Nat.le_trans ih (by simp [total])
theorem total_row (z : Nat → List Int) {i n : Nat} (h : i < n) : total z i + (z i).length ≤ total z n := total_mono z (show i + 1 ≤ n by omega)
theorem total_congr {z z' : Nat → List Int} {n : Nat} (h : ∀ i, i < n → (z i).length = (z' i).length) : total z n = total z' n := by
  induction n with
  | zero => rfl
  | succ n ih => simp only [total]; rw [ih fun i hi => h i (by omega), h n (by omega)]
/-- two slices of the same rows are found equal -/
theorem eq_rows (A A' : Option Addr) (n c c' : Nat) (z z' : Nat → List Int) (B B' : Nat) (w : World) (h : RowII w B A n c z) (h' : RowII w B' A' n c' z') (hz : ∀ i, i < n → z i = z' i) (hB : B ≤ w.heap.size) (hB' : B' ≤ w.heap.size) :
    Calls Try.prog 14 #[.slice A n c, .slice A' n c'] w fun e w' => e = .returned (.bool true) ∧ Below w.heap.size w w' := by
  have hcap := h.cap
  unfold maxLen at hcap
  have HZ := Lib.hid hz
  clear hz
  go_enter Try.func14, Try.ntmps14
  go_wp2_with fail
  go_loopw [5] (fun i wr => ∃ k : Nat, k ≤ n ∧ i = .int .i64 k ∧ Below w.heap.size w wr ∧ RowII wr B A n c z ∧ RowII wr B' A' n c' z') (fun i _ => n - (intOf i).toNat)
  case atStart => exact ⟨0, Nat.zero_le _, rfl, Below.refl _ _, h, h'⟩
  case round =>
    clear h h'
    obtain ⟨k, hk, rfl, hb, h, h'⟩ := hrel
    by_cases hlt : k < n
    · obtain ⟨b, off, rfl, _, Ak, ck, hc, hr⟩ := h.at_ hlt
      obtain ⟨b', off', rfl, _, Ak', ck', hc', hr'⟩ := h'.at_ hlt
      rw [← HZ.out k hlt] at hc' hr'
      have i0 : (0 : Int) ≤ (k : Int) := by omega
      have i1 : (k : Int) < (n : Int) := by omega
      have hsz := hb.size
      have l1 : b < wr.heap.size := by omega
      have l2 : b' < wr.heap.size := by omega
      go_wp2_with fail
      go_region_held3 (fun w' => w'.cell? ⟨b, off + k, none⟩ = some (.slice Ak (z k).length ck) ∧ w'.cell? ⟨b', off' + k, none⟩ = some (.slice Ak' (z k).length ck')) (first | go_keep | (exact ⟨(hb4.cell (p := ⟨b, off + k, none⟩) l1).trans hc, (hb4.cell (p := ⟨b', off' + k, none⟩) l2).trans hc'⟩)) (first | (go_at_call 19; ((with_reducible refine (eq_ints Ak Ak' (z k).length ck ck' (z k) B B' _ hr.drew hr'.drew).mono ?_); rintro e w4 ⟨rfl, hb4⟩); replace hb4 := below_drew hb4))
      have b5 : Below w.heap.size w w4 := hb.trans (hb4.mono hb.size)
      have h5 : RowII w4 B (some ⟨b, off, none⟩) n c z := h.keep fun p hp => hb4.cell (by omega)
      have h6 : RowII w4 B' (some ⟨b', off', none⟩) n c' z' := h'.keep fun p hp => hb4.cell (by omega)
      clear hb4 hc hc' hr hr' hb h h'
      go_wp2
      go_roundw
      case rel => exact ⟨k + 1, by omega, by go_num, b5, h5, h6⟩
      case measure => simp [intOf]; omega
    · go_wp2
      go_ret
      exact ⟨rfl, hb⟩
theorem sz_ints (A : Option Addr) (n c : Nat) (k : Int) (w : World) (hk : 0 ≤ k) (hk2 : k ≤ 1000000000) (hn : n ≤ 9223372036854775807) :
    Calls Try.prog 32 #[.slice A n c, .int .i64 k] w fun e w' => e = .returned (.int .i64 (if k < n then -1 else k - n)) ∧ w = w' := by
  rcases (by omega : k < (n : Int) ∨ (n : Int) ≤ k) with h | h
  · go_enter Try.func32, Try.ntmps32
    go_wp2
    go_ret
    exact ⟨ret_int (by first | rfl | (rw [if_pos h])), rfl⟩
  · go_enter Try.func32, Try.ntmps32
    go_wp2
    go_ret
    exact ⟨ret_int (by first | rfl | (rw [if_neg (by omega)])), rfl⟩
set_option maxHeartbeats 1000000 in
/-- the size is found small enough -/
theorem sz_rows (A : Option Addr) (n c : Nat) (z : Nat → List Int) (B : Nat) (w : World) (h : RowII w B A n c z) (hn : n + total z n ≤ 1048576) :
    Calls Try.prog 10 #[.slice A n c, .int .i64 1048576] w fun e w' => e = .returned (.int .i64 (1048576 - n - total z n)) ∧ w = w' := by
  go_enter Try.func10, Try.ntmps10
  go_wp2_with fail
  go_loop [1, 5] (fun q i => ∃ k : Nat, k ≤ n ∧ i = .int .i64 k ∧ q = .int .i64 (1048576 - n - total z k)) (fun _ i => n - (intOf i).toNat)
  case atStart => exact ⟨0, Nat.zero_le _, rfl, by simp [total]⟩
  case round =>
    obtain ⟨k, hk, rfl, rfl⟩ := hrel
    by_cases hlt : k < n
    · obtain ⟨b, off, rfl, _, Ak, ck, hc, hr⟩ := h.at_ hlt
      have ht := total_row z hlt
      have HS := Lib.hid (show total z (k + 1) = total z k + (z k).length from rfl)
      go_wp2_with fail
      refine (sz_ints Ak (z k).length ck _ w (by omega) (by omega) (by omega)).mono ?_
      rintro e w' ⟨rfl, rfl⟩
      have e1 : (if (1048576 : Int) - n - total z k < (z k).length then (-1 : Int) else 1048576 - n - total z k - (z k).length) = 1048576 - n - total z k - (z k).length := if_neg (by omega)
      rw [e1]
      clear e1
      go_wp2
      go_round
      case rel => exact ⟨k + 1, by omega, by go_num, by rw [HS.out]; go_num⟩
      case measure => simp [intOf]; omega
    · obtain rfl : k = n := by omega
      go_wp2
      go_ret
      exact ⟨rfl, rfl⟩
set_option maxHeartbeats 1000000 in
/-- the size is found too great -/
theorem sz_rows_no (A : Option Addr) (n c : Nat) (z : Nat → List Int) (B : Nat) (w : World) (h : RowII w B A n c z) (hn : 1048576 < n + total z n) :
    Calls Try.prog 10 #[.slice A n c, .int .i64 1048576] w fun e w' => e = .returned (.int .i64 (-1)) ∧ w = w' := by
  have hcap := h.cap
  unfold maxLen at hcap
  rcases (by omega : 1048576 < n ∨ n ≤ 1048576) with h1 | h1
  · go_enter Try.func10, Try.ntmps10
    go_wp2
    go_ret
    exact ⟨rfl, rfl⟩
  · go_enter Try.func10, Try.ntmps10
    go_wp2_with fail
    go_loop [1, 5] (fun q i => ∃ k : Nat, k ≤ n ∧ n + total z k ≤ 1048576 ∧ i = .int .i64 k ∧ q = .int .i64 (1048576 - n - total z k)) (fun _ i => n - (intOf i).toNat)
    case atStart => exact ⟨0, Nat.zero_le _, by simp [total]; omega, rfl, by simp [total]⟩
    case round =>
      obtain ⟨k, hk, hle, rfl, rfl⟩ := hrel
      by_cases hlt : k < n
      · obtain ⟨b, off, rfl, _, Ak, ck, hc, hr⟩ := h.at_ hlt
        have hrc := hr.cap
        unfold maxLen at hrc
        have HS := Lib.hid (show total z (k + 1) = total z k + (z k).length from rfl)
        go_wp2_with fail
        refine (sz_ints Ak (z k).length ck _ w (by omega) (by omega) (by omega)).mono ?_
        rintro e w' ⟨rfl, rfl⟩
        rcases (by omega : (1048576 : Int) - n - total z k < (z k).length ∨ ((z k).length : Int) ≤ 1048576 - n - total z k) with h2 | h2
        · rw [if_pos h2]
          go_wp2
          go_ret
          exact ⟨rfl, rfl⟩
        · rw [if_neg (by omega)]
          go_wp2
          go_round
          case rel => exact ⟨k + 1, by omega, by rw [HS.out]; omega, by go_num, by rw [HS.out]; go_num⟩
          case measure => simp [intOf]; omega
      · obtain rfl : k = n := by omega
        exact absurd hn (by omega)
def part (z : Nat → List Int) (k : Nat) : Nat → List Int := fun i => if i < k then z i else []
theorem part_upd (z : Nat → List Int) (k n : Nat) : ∀ i, i < n → upd (part z k) k (z k) i = part z (k + 1) i := by
  intro i _
  unfold upd part
  by_cases e : i = k
  · subst e; simp
  · by_cases h : i < k
    · rw [if_neg e, if_pos h, if_pos (by omega)]
    · rw [if_neg e, if_neg h, if_neg (by omega)]
theorem rows_made {w : World} {base g n : Nat} (z : Nat → List Int) (hg : g < w.heap.size) (h : w.ownsRow base 28 1 (.slice (some ⟨g, 0, none⟩) n n) n (madeCells (Value.slice none 0 0).cells (n * 1)).toList) :
    OwnII w base w.heap.size (.slice (some ⟨g, 0, none⟩) n n) n (part z 0) := by
  have e : (madeCells (Value.slice none 0 0).cells (n * 1)).toList = (List.range n).map fun _ => Value.slice none 0 0 := by
    rw [Nat.mul_one, show (Value.slice none 0 0).cells = #[Value.slice none 0 0] from rfl, toList_madeCells_one]
    apply List.ext_getElem?
    intro i
    by_cases hi : i < n <;> simp [hi]
  rw [e] at h
  refine ⟨fun _ => .slice none 0 0, h, fun k hk => ?_, fun i hi => ⟨own_nil w base, fun k hk => by cases hk⟩, fun i j k _ _ hk => by cases hk⟩
  simp [Value.ownBlock] at hk
  omega
set_option maxHeartbeats 1000000 in
/-- the copy of a slice of slices -/
theorem to_rows (A : Option Addr) (n c : Nat) (z : Nat → List Int) (B : Nat) (w : World) (h : RowII w B A n c z) (hB : B ≤ w.heap.size) (hn : n + total z n ≤ 1048576) :
    Calls Try.prog 12 #[.slice A n c] w fun e w' => e = .returned (.slice (some ⟨w.heap.size, 0, none⟩) n n) ∧ OwnII w' w.heap.size w'.heap.size (.slice (some ⟨w.heap.size, 0, none⟩) n n) n z ∧ Below w.heap.size w w' := by
  obtain ⟨i0, hi, hz0, hz1, hz2⟩ := info_parts info_row
  go_enter Try.func12, Try.ntmps12
  go_wp2_with (refine wpList_make_full _ rfl _ _ 22 rfl w.heap.size 28 i0 (.slice none 0 0) 1 Try.underlying22 hi hz0 hz1 .i64 .i64 _ _ n rfl rfl rfl rfl (by rw [hz2]; omega) (by unfold maxLen; omega) (Nat.le_refl _) ?_; intro w1 hown hgrow)
  have hb1 : Below w.heap.size w w1 := (Below.refl _ _).grown hgrow (Nat.le_refl _) (fun k h => by cases h)
  have hown1 := rows_made z (World.ownsRow.lt hown _ rfl).2 hown
  clear hown hgrow
  go_loopw [4] (fun i wr => ∃ k : Nat, k ≤ n ∧ i = .int .i64 k ∧ OwnII wr w.heap.size wr.heap.size (.slice (some ⟨w.heap.size, 0, none⟩) n n) n (part z k) ∧ Below w.heap.size w wr) (fun i _ => n - (intOf i).toNat)
  case atStart => exact ⟨0, Nat.zero_le _, rfl, hown1, hb1⟩
  case round =>
    obtain ⟨k, hk, rfl, hown, hb⟩ := hrel
    clear hown1 hb1
    by_cases hlt : k < n
    · have h2 : RowII wr B A n c z := h.keep fun p hp => hb.cell (by omega)
      obtain ⟨b, off, rfl, hbB, Ak, ck, hc, hr⟩ := h2.at_ hlt
      have ht := total_row z hlt
      go_wp2_with fail
      refine (to_ints Ak (z k).length ck (z k) B _ hr (by have := hb.size; omega) (by omega)).mono ?_
      rintro e w2 ⟨rfl, ho2, hb2⟩
      have hown2 := hown.keep hb2
      have hsz := hb.size
      have hsz2 := hb2.size
      have hlt2 := (OwnI.ge ho2).2
      obtain ⟨g', Ak', ck', e', _, _, hl3, hcell, hfr, _⟩ := hown2.at_ hlt
      simp only [Option.some.injEq, Addr.mk.injEq, and_true] at e'
      subst e'
      have hst := hown2.store (i := k) (v1 := .slice (some ⟨wr.heap.size, 0, none⟩) (z k).length (z k).length) hlt ho2 hsz hsz2
      have hst2 := hst.congr (part_upd z k n)
      have hb3 : Below w.heap.size w (w2.setCell ⟨w.heap.size, k, none⟩ (.slice (some ⟨wr.heap.size, 0, none⟩) (z k).length (z k).length)) := (hb.trans (hb2.mono hsz)).setCell (Nat.le_refl _) _
      clear hst hown hown2 ho2 hb2 hc hr h2
      go_wp2
      go_roundw
      case rel => exact ⟨k + 1, by omega, by go_num, by simpa using hst2, hb3⟩
      case measure => simp [intOf]; omega
    · have hfin : OwnII wr w.heap.size wr.heap.size (.slice (some ⟨w.heap.size, 0, none⟩) n n) n z := hown.congr fun i hi => by unfold part; rw [if_pos (by omega)]
      clear hown
      go_wp2
      go_ret
      exact ⟨rfl, hfin, hb⟩
/-- the rows, marked from k on -/
def markRows (z : Nat → List Int) (k : Int) (m : Nat) : Nat → List Int := fun i => if i < m then marks (k + total z i) (z i).length else z i
theorem markRows_len (z : Nat → List Int) (k : Int) (m i : Nat) : (markRows z k m i).length = (z i).length := by
  unfold markRows; split <;> simp [marks_len]
theorem markRows_upd (z : Nat → List Int) (k : Int) (m n : Nat) : ∀ i, i < n → upd (markRows z k m) m (marks (k + total z m) (z m).length) i = markRows z k (m + 1) i := by
  intro i _
  unfold upd markRows
  by_cases e : i = m
  · subst e; simp
  · by_cases h : i < m
    · rw [if_neg e, if_pos h, if_pos (by omega)]
    · rw [if_neg e, if_neg h, if_neg (by omega)]
set_option maxHeartbeats 1000000 in
/-- a slice of slices of the call's own is marked: nothing else is written -/
theorem mark_rows (A : Option Addr) (n c : Nat) (z : Nat → List Int) (base H : Nat) (k : Int) (w : World) (h : OwnII w base H (.slice A n c) n z) (hn : n + total z n ≤ 1048576) (hk : 0 ≤ k) (hk2 : k ≤ 1000000) :
    Calls Try.prog 20 #[.slice A n c, .int .i64 k] w fun e w' => e = .returned (.int .i64 (k + total z n)) ∧ OwnII w' base H (.slice A n c) n (markRows z k n) ∧ OnlyIn base H w w' := by
  have h0 : OwnII w base H (.slice A n c) n (markRows z k 0) := h.congr fun i _ => by unfold markRows; rw [if_neg (by omega)]
  clear h
  go_enter Try.func20, Try.ntmps20
  go_wp2_with fail
  go_loopw [1, 5] (fun q i wr => ∃ m : Nat, m ≤ n ∧ i = .int .i64 m ∧ q = .int .i64 (k + total z m) ∧ OwnII wr base H (.slice A n c) n (markRows z k m) ∧ OnlyIn base H w wr) (fun _ i _ => n - (intOf i).toNat)
  case atStart => exact ⟨0, Nat.zero_le _, rfl, by simp [total], h0, OnlyIn.refl _ _ _⟩
  case round =>
    clear h0
    obtain ⟨m, hm, rfl, rfl, hown, hon⟩ := hrel
    by_cases hlt : m < n
    · obtain ⟨g, Ai, ci, rfl, hg1, hg2, _, hcell, hfr, ho, hbl, hstep⟩ := hown.at_ hlt
      have hlen : (markRows z k m m).length = (z m).length := markRows_len z k m m
      have ht := total_row z hlt
      have HS := Lib.hid (show total z (m + 1) = total z m + (z m).length from rfl)
      rw [hlen] at hcell ho hstep
      clear hlen
      go_wp2_with fail
      refine (mark_ints Ai (z m).length ci _ base (k + total z m) _ ho (by omega) (by omega) (by omega)).mono ?_
      rintro e w2 ⟨rfl, ho2, hgr⟩
      have hown2 := (hstep w2 _ hgr ho2).congr (markRows_upd z k m n)
      have hon2 := hon.trans (OnlyIn.of_grown hgr fun j hj => ⟨(hbl j hj).1, (hbl j hj).2.1⟩)
      clear hstep ho ho2 hgr hown hon hcell
      go_wp2
      go_roundw
      case rel => exact ⟨m + 1, by omega, by go_num, by rw [HS.out]; go_num, hown2, hon2⟩
      case measure => simp [intOf]; omega
    · obtain rfl : m = n := by omega
      go_wp2
      go_ret
      exact ⟨rfl, hown, hon⟩
theorem markRows_wf {z : Nat → List Int} {k : Int} {n : Nat} (hn : n + total z n ≤ 1048576) (hk : 0 ≤ k) (hk2 : k ≤ 1000000) : ∀ i, i < n → ∀ x ∈ markRows z k n i, (Lit.int .i64 x).wf = true := by
  intro i hi
  have ht := total_row z hi
  unfold markRows
  rw [if_pos hi]
  exact marks_wf (by omega) (by omega) (by omega)
theorem rowII_wf {w : World} {B n c : Nat} {A : Option Addr} {z : Nat → List Int} (h : RowII w B A n c z) {i : Nat} (hi : i < n) : ∀ x ∈ z i, (Lit.int .i64 x).wf = true := by
  obtain ⟨b, off, _, _, Ai, ci, _, hr⟩ := h.at_ hi
  exact hr.2.2.2.1
end Go.Proofs.Ytmpadppnhhamhaa
