/- Contract of the reference's MirrorBlock. -/
import Derived.Test.YthenjmjnooaokaaTurnB
namespace Go.Proofs.Ythenjmjnooaokaa
open Go.ChangeShapes Go.WideShapes Go.ChangeAt Go.RowKit
set_option maxRecDepth 100000 in
set_option maxHeartbeats 16000000 in
theorem mirBlock_any (S M : Nat) (A : Option Addr) (c : Nat) (f : Nat → Nat → Int) (B : Nat) (w : World) (hM : M = S * S) (S1 : 1 ≤ S) (S4 : S ≤ 4) (hOK : ∀ k, k < M → cellOk (f k) = true) (h : RowP 3 w B A M c f) (hB : B ≤ w.heap.size) :
    Calls Try.prog 75 #[.agg #[.int .i64 S, .slice A M c]] w fun e w' => ∃ g c2, e = .returned (.agg #[.int .i64 S, .slice (some ⟨g, 0, none⟩) M c2]) ∧ OwnS 3 56 w' w.heap.size (.slice (some ⟨g, 0, none⟩) M c2) M (mirF S f) ∧ Below w.heap.size w w' := by
  have HM := Lib.hid hM
  have HOK := Lib.hid hOK
  have M16 : 1 ≤ M ∧ M ≤ 16 := by rcases (by omega : S = 1 ∨ S = 2 ∨ S = 3 ∨ S = 4) with e | e | e | e <;> subst e <;> omega
  have HB := Lib.hid (show blockOk (S : Int) M f = true by
    unfold blockOk cellsOk
    rw [show inB (S : Int) 1 4 = true by unfold inB; simp; omega, show ((M : Int) == (S : Int) * S) = true by rw [hM]; simp, allTo_iff.2 hOK]
    rfl)
  clear hM hOK
  obtain ⟨gA, off, rfl⟩ := rowP_some h M16.1
  go_enter Try.func75, Try.ntmps75
  go_wp2_with fail
  refine (spec_blockOk S _ M c f B _ (h.keep fun p hp => (((Below.refl w.heap.size w).alloc (Nat.le_refl _) _).alloc (by simp) _).cell (by omega)) (by simp; omega)).mono ?_
  rintro e w1 ⟨rfl, hb1⟩
  rw [HB.out]
  obtain ⟨b, hb⟩ : ∃ b, b = w.heap.size := ⟨_, rfl⟩
  have G0 : w1.heap[b]? = some (.cells #[.int .i64 S, .slice (some ⟨gA, off, none⟩) M c] 31 (0, 0)) := by rw [hb]; exact blk_below (blk_alloc (heap_alloc_new w _) _) hb1 (by simp; omega)
  have G1 : w1.heap[b + 1]? = some (.cells #[.int .i64 0, .slice none 0 0] 31 (0, 0)) := by rw [hb]; exact blk_below (by simpa using heap_alloc_new (w.alloc _) (.cells #[.int .i64 0, .slice none 0 0] 31)) hb1 (by simp)
  have hb2 : Below b w w1 := by rw [hb]; exact (((Below.refl w.heap.size w).alloc (Nat.le_refl _) _).alloc (by simp) _).trans (hb1.mono (by simp; omega))
  have z1 : b + 2 ≤ w1.heap.size := by have := hb1.size; simp at this; omega
  have bw : B ≤ b := by omega
  have HBW := Lib.hid hb
  rw [← hb]
  clear hb hb1 hB
  have x0 : w1.cell? ⟨b, 0, none⟩ = some (.int .i64 S) := by rw [blk_cell G0 0]; rfl
  go_wp2_with fail
  clear x0
  have G0' := blk_alloc G0 (.cells #[.int .i64 S, .slice none 0 0] 31)
  have G1' := blk_alloc G1 (.cells #[.int .i64 S, .slice none 0 0] 31)
  have GO : (w1.alloc (.cells #[.int .i64 S, .slice none 0 0] 31)).heap[w1.heap.size]? = some (.cells #[.int .i64 S, .slice none 0 0] 31 (0, 0)) := heap_alloc_new w1 _
  have hb3 := hb2.alloc (show b ≤ w1.heap.size by omega) (.cells #[.int .i64 S, .slice none 0 0] 31)
  obtain ⟨o, ho⟩ : ∃ o, o = w1.heap.size := ⟨_, rfl⟩
  obtain ⟨w2, hw2⟩ : ∃ w2, w2 = w1.alloc (.cells #[.int .i64 S, .slice none 0 0] 31) := ⟨_, rfl⟩
  have z2 : o + 1 ≤ w2.heap.size := by rw [hw2, ho]; simp
  rw [← hw2] at G0' G1' GO hb3 ⊢
  rw [← ho] at GO z1 ⊢
  clear hw2 ho G0 G1 hb2
  go_loopw [4, 5] (fun y _ wr => ∃ (j : Nat) (A2 : Option Addr) (c2 : Nat), j ≤ S ∧ y = .int .i64 j ∧ wr.heap[b]? = some (.cells #[.int .i64 S, .slice (some ⟨gA, off, none⟩) M c] 31 (0, 0)) ∧ wr.heap[b + 1]? = some (.cells #[.int .i64 0, .slice none 0 0] 31 (0, 0)) ∧ wr.heap[o]? = some (.cells #[.int .i64 S, .slice A2 (j * S) c2] 31 (0, 0)) ∧ OwnS 3 56 wr (o + 1) (.slice A2 (j * S) c2) (j * S) (mirF S f) ∧ Below b w wr ∧ o + 1 ≤ wr.heap.size) (fun y _ _ => S - (intOf y).toNat)
  case atStart => exact ⟨0, none, 0, by omega, rfl, G0', G1', by simpa using GO, by simpa using ownS_nil _ _ _ _ _, hb3, z2⟩
  case round =>
    clear G0' G1' GO hb3 z2
    obtain ⟨j, A2, c2, hj, rfl, G0, G1, GO, hown, hb, hz⟩ := hrel
    have x0 : wr.cell? ⟨b, 0, none⟩ = some (.int .i64 S) := by rw [blk_cell G0 0]; rfl
    by_cases hlt : j < S
    · obtain ⟨N, hN⟩ : ∃ N, N = j * S := ⟨_, rfl⟩
      have HN := Lib.hid hN
      rw [← hN] at GO hown
      have j3 : (j : Int) < (S : Int) := by omega
      have j0 : (0 : Int) ≤ (j : Int) := by omega
      clear hN
      obtain ⟨wo, rfl⟩ : ∃ wo : World, wo = wr := ⟨_, rfl⟩
      go_wp2_with fail
      go_loopw [5] (fun x wr => ∃ (k : Nat) (A2 : Option Addr) (c2 : Nat), k ≤ S ∧ x = .int .i64 k ∧ wr.heap[b]? = some (.cells #[.int .i64 S, .slice (some ⟨gA, off, none⟩) M c] 31 (0, 0)) ∧ wr.heap[b + 1]? = some (.cells #[.int .i64 0, .slice none 0 0] 31 (0, 0)) ∧ wr.heap[o]? = some (.cells #[.int .i64 S, .slice A2 (N + k) c2] 31 (0, 0)) ∧ OwnS 3 56 wr (o + 1) (.slice A2 (N + k) c2) (N + k) (mirF S f) ∧ Below b w wr ∧ o + 1 ≤ wr.heap.size) (fun x _ => S - (intOf x).toNat)
      case atStart => exact ⟨0, A2, c2, by omega, rfl, G0, G1, GO, hown, hb, hz⟩
      case round =>
        clear G0 G1 GO hown hb hz x0
        obtain ⟨k, A2, c2, hk, rfl, G0, G1, GO, hown, hb, hz⟩ := hrel
        have x0 : wr.cell? ⟨b, 0, none⟩ = some (.int .i64 S) := by rw [blk_cell G0 0]; rfl
        by_cases hkl : k < S
        · have k3 : (k : Int) < (S : Int) := by omega
          have k0 : (0 : Int) ≤ (k : Int) := by omega
          have x1 : wr.cell? ⟨b, 1, none⟩ = some (.slice (some ⟨gA, off, none⟩) M c) := by rw [blk_cell G0 1]; rfl
          have o1 : wr.cell? ⟨o, 1, none⟩ = some (.slice A2 (N + k) c2) := by rw [blk_cell GO 1]; rfl
          have o2 : wr.frozen? ⟨o, 1, none⟩ = false := blk_frozen GO
          obtain ⟨a1, ha1⟩ : ∃ a1, a1 = j * S := ⟨_, rfl⟩
          obtain ⟨a2, ha2⟩ : ∃ a2, a2 = a1 + S := ⟨_, rfl⟩
          obtain ⟨a3, ha3⟩ : ∃ a3, a3 = a2 - 1 := ⟨_, rfl⟩
          obtain ⟨X, hX⟩ : ∃ X, X = a3 - k := ⟨_, rfl⟩
          have HX := Lib.hid (show X = j * S + (S - 1 - k) by omega)
          have a1b : a1 ≤ 12 := by rw [ha1]; have : j * S ≤ 3 * S := Nat.mul_le_mul_right _ (by omega); omega
          have xm : X < M := by rw [HX.out, HM.out]; exact place_in hlt (by omega)
          have q1 : (j : Int) * (S : Int) = (a1 : Int) := by rw [ha1]; simp
          have q2 : (a1 : Int) + (S : Int) = (a2 : Int) := by omega
          have q3 : (a2 : Int) - 1 = (a3 : Int) := by omega
          have q4 : (a3 : Int) - (k : Int) = (X : Int) := by omega
          have u1 : IntKind.i64.wrap ((j : Int) * (S : Int)) = (a1 : Int) := by rw [q1]; exact IntWalk.i64_in _ (by omega)
          have u2 : IntKind.i64.wrap ((a1 : Int) + (S : Int)) = (a2 : Int) := by rw [q2]; exact IntWalk.i64_in _ (by omega)
          have u3 : IntKind.i64.wrap ((a2 : Int) - 1) = (a3 : Int) := by rw [q3]; exact IntWalk.i64_in _ (by omega)
          have u4 : IntKind.i64.wrap ((a3 : Int) - (k : Int)) = (X : Int) := by rw [q4]; exact IntWalk.i64_in _ (by omega)
          clear ha1 ha2 ha3 hX q1 q2 q3 q4
          have HF := Lib.hid (show mirF S f (N + k) = mirC (f X) by rw [HN.out, HX.out]; exact mirF_at f hkl)
          have hc1 := HOK.out X xm
          have HK := Lib.hid hc1
          have hP := h.keep (w' := wr) fun p hp => hb.cell (by omega)
          obtain ⟨gB, y0, y1, y2⟩ := rowP_cells hP xm
          clear hP hc1
          have X0 : (0 : Int) ≤ (X : Int) := by omega
          have X3 : (X : Int) < (M : Int) := by omega
          have N16 : N + k ≤ 16 := by have := HN.out; have : j * S + k ≤ 16 := (by have h4 : j * S ≤ 3 * S := Nat.mul_le_mul_right _ (by omega); omega); omega
          go_wp2_with fail
          go_region_law (first
            | (refine appC_drawn (by rfl) _ _ (by rfl) (o + 1) (N + k) _ (mirF S f) (mirC (f X)) wc0.heap.size (by rfl) (hown2.alloc _) (by rfl) (heap_alloc_new wc0 _) (by omega) (by simp; omega) ?_; intro A4 c4 w4 ho4 hg4; have GO4 := row_far hg4 hown2 (blk_alloc GO2 _); have t0 : w4.cell? ⟨o, 1, none⟩ = some (.slice A2 (N + k) c2) := (by rw [blk_cell GO4 1]; rfl); have t1 : w4.frozen? ⟨o, 1, none⟩ = false := blk_frozen GO4)
            | (go_simp; go_at_call 100; ((with_reducible refine (mirCell_any (f X) _ HK.out).mono ?_); rintro e wc0 ⟨rfl, hbc0⟩); replace hbc0 := below_drew hbc0; have zc := hbc0.size; have GO2 := blk_below GO hbc0 (by omega); have hown2 := hown.keep hbc0; have r0 : wc0.cell? ⟨o, 1, none⟩ = some (.slice A2 (N + k) c2) := (by rw [blk_cell GO2 1]; rfl); have r1 : wc0.frozen? ⟨o, 1, none⟩ = false := blk_frozen GO2; have zo : o < wc0.heap.size := (by omega); have zn : o ≠ wc0.heap.size := (by omega)))
          all_goals
            have hbc := hb.trans (hbc0.mono (by omega))
            have G02 := blk_below G0 hbc0 (by omega)
            have G12 := blk_below G1 hbc0 (by omega)
            have G04 := row_far hg4 hown2 (blk_alloc G02 _) (by omega)
            have G14 := row_far hg4 hown2 (blk_alloc G12 _) (by omega)
            have G05 := blk_set G04 (p := ⟨o, 1, none⟩) (show b ≠ o by omega) (.slice A4 (N + k + 1) c4)
            have G15 := blk_set G14 (p := ⟨o, 1, none⟩) (show b + 1 ≠ o by omega) (.slice A4 (N + k + 1) c4)
            have GO5 : (w4.setCell ⟨o, 1, none⟩ (.slice A4 (N + k + 1) c4)).heap[o]? = some (.cells #[.int .i64 S, .slice A4 (N + k + 1) c4] 31 (0, 0)) := by simpa using heap_setCell_same w4 o 1 _ _ (.slice A4 (N + k + 1) c4) GO4
            rw [updS_same (mirF S f) (N + k) HF.out] at ho4
            have ho5 := ho4.setOther (p := ⟨o, 1, none⟩) (x := .slice A4 (N + k + 1) c4) (fun q hq => by have := (World.ownsRow.lt ho4 q hq).1; show o ≠ q; omega)
            have hb6 := ((hbc.alloc (show b ≤ wc0.heap.size by omega) (.cells #[.int .i64 (mirC (f X) 0), .int .i64 (mirC (f X) 1), .int .i64 (mirC (f X) 2)] 56)).grown hg4 (by simp; omega) (fun q hq => by have := (World.ownsRow.lt hown2 q hq).1; omega)).setCell (p := ⟨o, 1, none⟩) (show b ≤ o by omega) (.slice A4 (N + k + 1) c4)
            have z9 : o + 1 ≤ (w4.setCell ⟨o, 1, none⟩ (.slice A4 (N + k + 1) c4)).heap.size := by have := hg4.size; simp [World.setCell] at this ⊢; omega
            clear G0 G1 GO G02 G12 GO2 G04 G14 GO4 hown hown2 ho4 hb hbc hbc0 hg4 r0 r1 t0 t1 x0 x1 o1 o2 y0 y1 y2 u1 u2 u3 u4
            go_wp2
            go_roundw
            case rel => exact ⟨k + 1, A4, c4, by omega, by go_num, G05, G15, GO5, ho5, hb6, z9⟩
            case measure => simp [intOf]; omega
        · obtain rfl : k = S := by omega
          have k3 : ¬ (k : Int) < (k : Int) := by omega
          have e1 : N + k = (j + 1) * k := by rw [HN.out, Nat.succ_mul]
          rw [e1] at GO hown
          go_wp2
          go_roundw
          case rel => exact ⟨j + 1, A2, c2, by omega, by go_num, G0, G1, GO, hown, hb, hz⟩
          case measure => simp [intOf]; omega
    · obtain rfl : j = S := by omega
      have j3 : ¬ (j : Int) < (j : Int) := by omega
      rw [← HM.out] at GO hown
      obtain ⟨g, rfl⟩ := hown.some_ (by omega)
      have x1 : wr.cell? ⟨o, 0, none⟩ = some (.int .i64 j) := by rw [blk_cell GO 0]; rfl
      have x2 : wr.cell? ⟨o, 1, none⟩ = some (.slice (some ⟨g, 0, none⟩) M c2) := by rw [blk_cell GO 1]; rfl
      have y0 : wr.cell? ⟨b + 1, 0, none⟩ = some (.int .i64 0) := by rw [blk_cell G1 0]; rfl
      have y1 : wr.cell? ⟨b + 1, 1, none⟩ = some (.slice none 0 0) := by rw [blk_cell G1 1]; rfl
      have q0 : wr.frozen? ⟨b + 1, 0, none⟩ = false := blk_frozen G1
      have q1 : wr.frozen? ⟨b + 1, 1, none⟩ = false := blk_frozen G1
      have hne : ∀ (u : World) (i : Nat) (x : Value), OwnS 3 56 u (o + 1) (.slice (some ⟨g, 0, none⟩) M c2) M (mirF j f) → OwnS 3 56 (u.setCell ⟨b + 1, i, none⟩ x) (o + 1) (.slice (some ⟨g, 0, none⟩) M c2) M (mirF j f) := fun u i x h => h.setOther fun q hq => by have := (World.ownsRow.lt h q hq).1; show b + 1 ≠ q; omega
      have ho7 := (hne _ 1 (.slice (some ⟨g, 0, none⟩) M c2) (hne _ 0 (.int .i64 j) hown)).base_ (show b ≤ o + 1 by omega)
      have hb7 := (hb.setCell (p := ⟨b + 1, 0, none⟩) (show b ≤ b + 1 by omega) (.int .i64 j)).setCell (p := ⟨b + 1, 1, none⟩) (show b ≤ b + 1 by omega) (.slice (some ⟨g, 0, none⟩) M c2)
      clear G0 G1 GO hown hb hne
      go_wp2
      exact bodyPost_ret (v := .agg #[.int .i64 j, .slice (some ⟨g, 0, none⟩) M c2]) (by simp [results, Try.results75, go_sem, y0, y1, q0, q1]) rfl ⟨g, c2, rfl, by rw [← HBW.out]; exact ho7, by rw [← HBW.out]; exact hb7⟩
end Go.Proofs.Ythenjmjnooaokaa
