/- Contracts of upTo and parts: the program's side. -/
import Derived.Test.YtkgabnhfjmldbaaThr2
import Derived.Deep.RegionHeld3
namespace Go.Proofs.Ytkgabnhfjmldbaa
open Go.ChangeShapes Go.WideShapes Go.ChangeAt Go.RowKit
set_option maxHeartbeats 4000000 in
theorem impl_upTo (N : Nat) (w : World) (hN1 : 1 ≤ N) (hN : N ≤ 10) :
    Calls Try.prog 39 #[.int .i64 N] w fun e w' => ∃ g c2, e = .returned (.slice (some ⟨g, 0, none⟩) N c2) ∧ OwnI w' w.heap.size (.slice (some ⟨g, 0, none⟩) N c2) (labs N fun i => i) ∧ Below w.heap.size w w' := by
  go_enter Try.func39, Try.ntmps39
  go_wp2_with fail
  go_loopw [3, 4, 7] (fun v _ i wr => ∃ (k : Nat) (A2 : Option Addr) (c2 : Nat), k ≤ N ∧ i = .int .i64 k ∧ v = .slice A2 k c2 ∧ OwnI wr w.heap.size (.slice A2 k c2) (labs k fun i => i) ∧ Below w.heap.size w wr) (fun _ _ i _ => N - (intOf i).toNat)
  case atStart => exact ⟨0, _, 0, by omega, rfl, rfl, own_empty w, (Below.refl _ _).alloc (Nat.le_refl _) _⟩
  case round =>
    obtain ⟨k, A2, c2, hk, rfl, rfl, hown, hb⟩ := hrel
    have hbw := hb.size
    by_cases hkl : k < N
    · have k0 : (0 : Int) ≤ (k : Int) := by omega
      have k3 : (k : Int) < (N : Int) := by omega
      have HS := Lib.hid (labs_snoc k fun i => i)
      have HLn := Lib.hid (labs_len k fun i => i)
      go_wp2_with (at_builtin; refine app_shape rfl _ _ rfl w.heap.size _ (labs k fun i => i) (k : Int) wr.heap.size k HLn.out rfl (hown.alloc _) rfl (heap_alloc_new wr _) (by rw [HLn.out]; omega) (by simp; omega) ?_; intro A4 c4 w4 ho4 hb4)
      have hb5 := (hb.alloc hbw (.cells #[.int .i64 k] 3)).trans hb4
      rw [← HS.out] at ho4
      clear hb4 hown
      go_roundw
      case rel => exact ⟨k + 1, A4, c4, by omega, by go_num, rfl, ho4, hb5⟩
      case measure => simp [intOf]; omega
    · obtain rfl : k = N := by omega
      have k3 : ¬ (k : Int) < (k : Int) := by omega
      rcases hown.form.2 with ⟨_, hbad⟩ | ⟨g, rfl⟩
      · omega
      go_wp2
      go_ret
      exact ⟨g, c2, rfl, hown, hb⟩
set_option maxRecDepth 100000 in
set_option maxHeartbeats 8000000 in
theorem impl_parts (N : Nat) (A : Option Addr) (l c : Nat) (f : Nat → Nat → Int) (B : Nat) (w : World) (h : RowP 2 w B A l c f) (hB : B ≤ w.heap.size) (hN1 : 1 ≤ N) (hN : N ≤ 10) (hl : l ≤ 20) (hf : ∀ k, k < l → 0 ≤ f k 0 ∧ f k 0 < N ∧ 0 ≤ f k 1 ∧ f k 1 < N ∧ f k 0 ≠ f k 1) :
    Calls Try.prog 27 #[.int .i64 N, .slice A l c] w fun e w' => ∃ g c2, e = .returned (.slice (some ⟨g, 0, none⟩) N c2) ∧ OwnI w' w.heap.size (.slice (some ⟨g, 0, none⟩) N c2) (labs N (part_ f l)) ∧ Below w.heap.size w w' := by
  have hcap := h.cap
  unfold maxLen at hcap
  have HF := Lib.hid hf
  have HR := Lib.hid (show labs N (roundsL (lnU f) (lnV f) l N) = labs N (part_ f l) from labs_congr fun i hi => rounds_merge (N := N) (fun j hj => by have := hf j hj; unfold lnU lnV; omega) hi)
  clear hf
  go_enter Try.func27, Try.ntmps27
  go_wp2_with fail
  refine (impl_upTo N w hN1 hN).mono ?_
  rintro e w1 ⟨g, cg, rfl, o1, hb1⟩
  go_wp2_with fail
  go_loopw [7, 8, 12] (fun _ _ i wr => ∃ r : Nat, r ≤ N ∧ i = .int .i64 r ∧ OwnI wr w.heap.size (.slice (some ⟨g, 0, none⟩) N cg) (labs N (roundsL (lnU f) (lnV f) l r)) ∧ Below w.heap.size w wr) (fun _ _ i _ => N - (intOf i).toNat)
  case atStart => exact ⟨0, by omega, rfl, o1, hb1⟩
  case round =>
    clear o1 hb1
    obtain ⟨r, hr, rfl, hown, hb⟩ := hrel
    by_cases hrl : r < N
    · have r0 : (0 : Int) ≤ (r : Int) := by omega
      have r3 : (r : Int) < (N : Int) := by omega
      go_wp2_with fail
      go_loopw [7, 8, 16] (fun _ _ i wr => ∃ k : Nat, k ≤ l ∧ i = .int .i64 k ∧ OwnI wr w.heap.size (.slice (some ⟨g, 0, none⟩) N cg) (labs N (relaxTo (lnU f) (lnV f) (roundsL (lnU f) (lnV f) l r) k)) ∧ Below w.heap.size w wr) (fun _ _ i _ => l - (intOf i).toNat)
      case atStart => exact ⟨0, by omega, rfl, hown, hb⟩
      case round =>
        clear hown hb
        obtain ⟨k, hk, rfl, hown, hb⟩ := hrel
        by_cases hlt : k < l
        · have h2 : RowP 2 wr B A l c f := h.keep fun p hp => hb.cell (by omega)
          obtain ⟨b, off, rfl, hbB, x0, x1⟩ := h2.lines hlt
          have k0 : (0 : Int) ≤ (k : Int) := by omega
          have k3 : (k : Int) < (l : Int) := by omega
          obtain ⟨f0, f0N, f1, f1N, fne⟩ := HF.out k hlt
          obtain ⟨LB, hLB⟩ : ∃ LB, LB = relaxTo (lnU f) (lnV f) (roundsL (lnU f) (lnV f) l r) k := ⟨_, rfl⟩
          have HS := Lib.hid (show relaxTo (lnU f) (lnV f) (roundsL (lnU f) (lnV f) l r) (k + 1) = relax LB (f k 0).toNat (f k 1).toNat by rw [hLB]; rfl)
          have hLle : ∀ i, LB i ≤ i := by rw [hLB]; exact fun i => Nat.le_trans (relaxTo_le k i) (roundsL_le l r i)
          have l0 := hLle (f k 0).toNat
          have l1 := hLle (f k 1).toNat
          rw [← hLB] at hown
          have q0 := hown.cellAt (j := (f k 0).toNat) (by rw [labs_len]; omega)
          have q1 := hown.cellAt (j := (f k 1).toNat) (by rw [labs_len]; omega)
          rw [labs_nth LB (by omega)] at q0 q1
          have fr0 := hown.frozenAt (f k 0).toNat
          have fr2 := hown.frozenAt (f k 1).toNat
          have HOW0 : ∀ W : World, OwnI W w.heap.size (.slice (some ⟨g, 0, none⟩) N cg) (labs N LB) → OwnI ((W.setCell ⟨g, (f k 0).toNat, none⟩ (.int .i64 (min (LB (f k 0).toNat) (LB (f k 1).toNat) : Nat))).setCell ⟨g, (f k 1).toNat, none⟩ (.int .i64 (min (LB (f k 0).toNat) (LB (f k 1).toNat) : Nat))) w.heap.size (.slice (some ⟨g, 0, none⟩) N cg) (labs N (relaxTo (lnU f) (lnV f) (roundsL (lnU f) (lnV f) l r) (k + 1))) := fun W hW => by
            have o2 := ((hW.stored (f k 0).toNat (min (LB (f k 0).toNat) (LB (f k 1).toNat) : Nat)).stored (f k 1).toNat (min (LB (f k 0).toNat) (LB (f k 1).toNat) : Nat))
            rw [relax_step LB (by omega) (by omega), ← HS.out] at o2
            exact o2
          have gb := hown.ge.1
          have HBW0 : ∀ W : World, Below w.heap.size w W → Below w.heap.size w ((W.setCell ⟨g, (f k 0).toNat, none⟩ (.int .i64 (min (LB (f k 0).toNat) (LB (f k 1).toNat) : Nat))).setCell ⟨g, (f k 1).toNat, none⟩ (.int .i64 (min (LB (f k 0).toNat) (LB (f k 1).toNat) : Nat))) := fun W hW => (hW.setCell (p := ⟨g, (f k 0).toNat, none⟩) gb _).setCell (p := ⟨g, (f k 1).toNat, none⟩) gb _
          have g0 := hown.ge.2
          obtain ⟨mn, hmn⟩ : ∃ q, q = min (LB (f k 0).toNat) (LB (f k 1).toNat) := ⟨_, rfl⟩
          rw [← hmn] at HOW0 HBW0
          have HOW := Lib.hid HOW0
          have HBW := Lib.hid HBW0
          clear HOW0 HBW0
          obtain ⟨u0, hu0⟩ : ∃ q, q = LB (f k 0).toNat := ⟨_, rfl⟩
          obtain ⟨u1, hu1⟩ : ∃ q, q = LB (f k 1).toNat := ⟨_, rfl⟩
          rw [← hu0] at q0 hmn l0
          rw [← hu1] at q1 hmn l1
          have g1 : g ≠ wr.heap.size := by omega
          have hb9 := hb.alloc hb.size (.cells #[.int .i64 (f k 0), .int .i64 (f k 1)] 43)
          rcases (by omega : u0 < u1 ∨ u1 < u0 ∨ u0 = u1) with hq | hq | hq
          · obtain rfl : mn = u0 := by omega
            have hq2 : (mn : Int) < (u1 : Int) := by omega
            clear hLB hLle hmn hu0 hu1 h2
            go_wp2_with fail
            go_quiet (fail)
            go_wp2_with fail
            go_region_held3 (fun w' => w'.cell? ⟨wr.heap.size, 0, none⟩ = some (.int .i64 (f k 0)) ∧ w'.cell? ⟨wr.heap.size, 1, none⟩ = some (.int .i64 (f k 1))) (first | go_keep | (exact ⟨by go_simp, by go_simp⟩)) (fail)
            have o6 := HOW.out _ (show OwnI ((wr.alloc (.cells #[.int .i64 (f k 0), .int .i64 (f k 1)] 43)).drewN (nq + 1)) w.heap.size (.slice (some ⟨g, 0, none⟩) N cg) (labs N LB) from hown.alloc _)
            have hb6 := HBW.out _ (show Below w.heap.size w ((wr.alloc (.cells #[.int .i64 (f k 0), .int .i64 (f k 1)] 43)).drewN (nq + 1)) from ⟨hb9.os, hb9.tape, hb9.output, hb9.size, hb9.block⟩)
            clear hown hb hb9
            go_wp2
            go_roundw
            case rel => exact ⟨k + 1, by omega, by go_num, o6, hb6⟩
            case measure => simp [intOf]; omega
          · obtain rfl : mn = u1 := by omega
            have hq2 : (mn : Int) < (u0 : Int) := by omega
            have hq3 : ¬ (u0 : Int) < (mn : Int) := by omega
            clear hLB hLle hmn hu0 hu1 h2
            go_wp2_with fail
            go_quiet (fail)
            go_wp2_with fail
            go_region_held3 (fun w' => w'.cell? ⟨wr.heap.size, 0, none⟩ = some (.int .i64 (f k 0)) ∧ w'.cell? ⟨wr.heap.size, 1, none⟩ = some (.int .i64 (f k 1))) (first | go_keep | (exact ⟨by go_simp, by go_simp⟩)) (fail)
            have o6 := HOW.out _ (show OwnI ((wr.alloc (.cells #[.int .i64 (f k 0), .int .i64 (f k 1)] 43)).drewN (nq + 1)) w.heap.size (.slice (some ⟨g, 0, none⟩) N cg) (labs N LB) from hown.alloc _)
            have hb6 := HBW.out _ (show Below w.heap.size w ((wr.alloc (.cells #[.int .i64 (f k 0), .int .i64 (f k 1)] 43)).drewN (nq + 1)) from ⟨hb9.os, hb9.tape, hb9.output, hb9.size, hb9.block⟩)
            clear hown hb hb9
            go_wp2
            go_roundw
            case rel => exact ⟨k + 1, by omega, by go_num, o6, hb6⟩
            case measure => simp [intOf]; omega
          · obtain rfl : mn = u0 := by omega
            obtain rfl : mn = u1 := by omega
            clear hLB hLle hmn hu0 hu1 h2
            go_wp2_with fail
            go_quiet (fail)
            go_wp2_with fail
            go_region_held3 (fun w' => w'.cell? ⟨wr.heap.size, 0, none⟩ = some (.int .i64 (f k 0)) ∧ w'.cell? ⟨wr.heap.size, 1, none⟩ = some (.int .i64 (f k 1))) (first | go_keep | (exact ⟨by go_simp, by go_simp⟩)) (fail)
            have o6 := HOW.out _ (show OwnI ((wr.alloc (.cells #[.int .i64 (f k 0), .int .i64 (f k 1)] 43)).drewN (nq + 1)) w.heap.size (.slice (some ⟨g, 0, none⟩) N cg) (labs N LB) from hown.alloc _)
            have hb6 := HBW.out _ (show Below w.heap.size w ((wr.alloc (.cells #[.int .i64 (f k 0), .int .i64 (f k 1)] 43)).drewN (nq + 1)) from ⟨hb9.os, hb9.tape, hb9.output, hb9.size, hb9.block⟩)
            clear hown hb hb9
            go_wp2
            go_roundw
            case rel => exact ⟨k + 1, by omega, by go_num, o6, hb6⟩
            case measure => simp [intOf]; omega
        · have HE := Lib.hid (show relaxTo (lnU f) (lnV f) (roundsL (lnU f) (lnV f) l r) k = roundsL (lnU f) (lnV f) l (r + 1) by rw [show k = l by omega]; rfl)
          rw [HE.out] at hown
          have k3 : ¬ (k : Int) < (l : Int) := by omega
          go_wp2
          go_roundw
          case rel => exact ⟨r + 1, by omega, by go_num, hown, hb⟩
          case measure => simp [intOf]; omega
    · have HE := Lib.hid (show labs N (roundsL (lnU f) (lnV f) l r) = labs N (part_ f l) by rw [show r = N by omega]; exact HR.out)
      rw [HE.out] at hown
      have r3 : ¬ (r : Int) < (N : Int) := by omega
      go_wp2
      go_ret
      exact ⟨g, cg, rfl, hown, hb⟩
end Go.Proofs.Ytkgabnhfjmldbaa
