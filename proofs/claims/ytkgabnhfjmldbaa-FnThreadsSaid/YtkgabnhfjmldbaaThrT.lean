/- Contracts of l20Parts, OddPoints and ThreadsNeeded: the reference's side. -/
import Derived.Test.YtkgabnhfjmldbaaThrS
import Derived.Test.YtkgabnhfjmldbaaThr2
namespace Go.Proofs.Ytkgabnhfjmldbaa
open Go.ChangeShapes Go.WideShapes Go.ChangeAt Go.RowKit
set_option maxRecDepth 100000 in
set_option maxHeartbeats 8000000 in
theorem spec_parts (N : Nat) (A : Option Addr) (l c : Nat) (f : Nat → Nat → Int) (B : Nat) (w : World) (h : RowP 2 w B A l c f) (hB : B ≤ w.heap.size) (hN1 : 1 ≤ N) (hN : N ≤ 10) (hl : l ≤ 20) (hf : ∀ k, k < l → 0 ≤ f k 0 ∧ f k 0 < N ∧ 0 ≤ f k 1 ∧ f k 1 < N ∧ f k 0 ≠ f k 1) :
    Calls Try.prog 25 #[.int .i64 N, .slice A l c] w fun e w' => ∃ g c2, e = .returned (.slice (some ⟨g, 0, none⟩) N c2) ∧ OwnI w' w.heap.size (.slice (some ⟨g, 0, none⟩) N c2) (labs N (part_ f l)) ∧ Below w.heap.size w w' := by
  have hcap := h.cap
  unfold maxLen at hcap
  have HF := Lib.hid hf
  clear hf
  go_enter Try.func25, Try.ntmps25
  go_wp2_with fail
  go_loopw [5, 6] (fun v i wr => ∃ (k : Nat) (A2 : Option Addr) (c2 : Nat), k ≤ N ∧ i = .int .i64 k ∧ v = .slice A2 k c2 ∧ OwnI wr w.heap.size (.slice A2 k c2) (labs k fun i => i) ∧ Below w.heap.size w wr) (fun _ i _ => N - (intOf i).toNat)
  case atStart => exact ⟨0, _, 0, by omega, rfl, rfl, own_empty w, (Below.refl _ _).alloc (Nat.le_refl _) _⟩
  case round =>
    obtain ⟨k, A2, c2, hk, rfl, rfl, hown, hb⟩ := hrel
    have hbw := hb.size
    by_cases hkl : k < N
    · have k0 : (0 : Int) ≤ (k : Int) := by omega
      have k3 : (k : Int) < (N : Int) := by omega
      have HS := Lib.hid (labs_snoc k fun i => i)
      have HLn := Lib.hid (labs_len k fun i => i)
      go_wp2_with (at_builtin; refine app_shape rfl _ _ rfl w.heap.size _ (labs k fun i => i) (k : Int) wr.heap.size k HLn.out rfl (hown.alloc _) rfl (heap_alloc_new wr _) (by rw [HLn.out]; omega) (by simp; omega) ?_; intro A4 c4 w4 ho4 hb4)
      have hb5 := (hb.alloc hbw (.cells #[.int .i64 k] 3)).trans hb4
      rw [← HS.out] at ho4
      clear hb4 hown
      go_roundw
      case rel => exact ⟨k + 1, A4, c4, by omega, by go_num, rfl, ho4, hb5⟩
      case measure => simp [intOf]; omega
    · obtain rfl : k = N := by omega
      have k3 : ¬ (k : Int) < (k : Int) := by omega
      obtain ⟨g, rfl⟩ : ∃ g, A2 = some ⟨g, 0, none⟩ := by
        rcases hown.form.2 with ⟨_, hbad⟩ | hg
        · omega
        · exact hg
      go_wp2_with fail
      go_loopw [7] (fun i wr => ∃ j : Nat, j ≤ l ∧ i = .int .i64 j ∧ OwnI wr w.heap.size (.slice (some ⟨g, 0, none⟩) k c2) (labs k (part_ f j)) ∧ Below w.heap.size w wr) (fun i _ => l - (intOf i).toNat)
      case atStart => exact ⟨0, by omega, rfl, hown, hb⟩
      case round =>
        clear hown hb hbw
        obtain ⟨j, hj, rfl, hown, hb⟩ := hrel
        by_cases hlt : j < l
        · have h2 : RowP 2 wr B A l c f := h.keep fun p hp => hb.cell (by omega)
          obtain ⟨b, off, rfl, hbB, x0, x1⟩ := h2.lines hlt
          have j0 : (0 : Int) ≤ (j : Int) := by omega
          have j3 : (j : Int) < (l : Int) := by omega
          obtain ⟨f0, f0N, f1, f1N, fne⟩ := HF.out j hlt
          obtain ⟨LB, hLB⟩ : ∃ LB, LB = part_ f j := ⟨_, rfl⟩
          have HS := Lib.hid (show part_ f (j + 1) = merge LB (f j 0).toNat (f j 1).toNat by rw [hLB]; rfl)
          have hLle : ∀ i, LB i ≤ i := by rw [hLB]; exact fun i => mergeTo_le j i
          have l0 := hLle (f j 0).toNat
          have l1 := hLle (f j 1).toNat
          rw [← hLB] at hown
          have q0 := hown.cellAt (j := (f j 0).toNat) (by rw [labs_len]; omega)
          have q1 := hown.cellAt (j := (f j 1).toNat) (by rw [labs_len]; omega)
          rw [labs_nth LB (by omega)] at q0 q1
          obtain ⟨a, ha⟩ : ∃ q, q = (f j 0).toNat := ⟨_, rfl⟩
          obtain ⟨b2, hb2⟩ : ∃ q, q = (f j 1).toNat := ⟨_, rfl⟩
          have HA := Lib.hid ha
          have HB2 := Lib.hid hb2
          have HP0 := Lib.hid (show labs k (mergeP LB (f j 0).toNat (f j 1).toNat 0) = labs k LB by rw [mergeP_zero])
          obtain ⟨u0, hu0⟩ : ∃ q, q = LB (f j 0).toNat := ⟨_, rfl⟩
          obtain ⟨u1, hu1⟩ : ∃ q, q = LB (f j 1).toNat := ⟨_, rfl⟩
          have HU0 := Lib.hid hu0
          have HU1 := Lib.hid hu1
          have HLL := Lib.hid hLle
          rw [← hu0] at q0 l0
          rw [← hu1] at q1 l1
          rw [← HP0.out] at hown
          clear hLB hLle hu0 hu1 ha hb2 h2
          go_wp2_with fail
          clear x0 x1 q0 q1
          go_loopw [10] (fun i wr => ∃ p : Nat, p ≤ k ∧ i = .int .i64 p ∧ OwnI wr w.heap.size (.slice (some ⟨g, 0, none⟩) k c2) (labs k (mergeP LB (f j 0).toNat (f j 1).toNat p)) ∧ Below w.heap.size w wr) (fun i _ => k - (intOf i).toNat)
          case atStart => exact ⟨0, by omega, rfl, hown, hb⟩
          case round =>
            clear hown hb
            obtain ⟨p, hp, rfl, hown, hb⟩ := hrel
            by_cases hpk : p < k
            · have p0 : (0 : Int) ≤ (p : Int) := by omega
              have p3 : (p : Int) < (k : Int) := by omega
              have qp := hown.cellAt (j := p) (by rw [labs_len]; exact hpk)
              rw [labs_nth _ hpk, mergeP_self] at qp
              have frp := hown.frozenAt p
              have g0 := hown.ge
              have ul := HLL.out p
              obtain ⟨u, hu⟩ : ∃ q, q = LB p := ⟨_, rfl⟩
              rw [← hu] at qp ul
              obtain ⟨mx, hmx⟩ : ∃ q, q = max u0 u1 := ⟨_, rfl⟩
              obtain ⟨mn, hmn⟩ : ∃ q, q = min u0 u1 := ⟨_, rfl⟩
              have m1 : (if (u0 : Int) < (u1 : Int) then (u1 : Int) else (u0 : Int)) = (mx : Int) := by split <;> omega
              have m2 : (if (u1 : Int) < (u0 : Int) then (u1 : Int) else (u0 : Int)) = (mn : Int) := by split <;> omega
              by_cases e : u = mx
              · have t3 : ((u : Int) == (mx : Int)) = true := by simp [e]
                have t4 : (u == mx) = true := by simp [e]
                have hS : (labs k (mergeP LB (f j 0).toNat (f j 1).toNat p)).set p (mn : Int) = labs k (mergeP LB (f j 0).toNat (f j 1).toNat (p + 1)) := by
                  rw [← mergeP_yes hpk (by rw [← hu, e, hmx, HU0.out, HU1.out]), hmn, HU0.out, HU1.out]
                have o2 := hown.stored p (mn : Int)
                rw [hS] at o2
                have hb3 := hb.setCell (p := ⟨g, p, none⟩) g0.1 (.int .i64 (mn : Int))
                clear hS hown hb hu
                rcases (by omega : u0 < u1 ∨ u1 < u0 ∨ u0 = u1) with hq | hq | hq
                · obtain rfl : mn = u0 := by omega
                  clear hmx hmn e
                  go_wp2
                  go_roundw
                  case rel => exact ⟨p + 1, by omega, by go_num, o2, hb3⟩
                  case measure => simp [intOf]; omega
                · obtain rfl : mn = u1 := by omega
                  clear hmx hmn e
                  go_wp2
                  go_roundw
                  case rel => exact ⟨p + 1, by omega, by go_num, o2, hb3⟩
                  case measure => simp [intOf]; omega
                · obtain rfl : mn = u0 := by omega
                  obtain rfl : mn = u1 := by omega
                  clear hmx hmn e
                  go_wp2
                  go_roundw
                  case rel => exact ⟨p + 1, by omega, by go_num, o2, hb3⟩
                  case measure => simp [intOf]; omega
              · have t3 : ((u : Int) == (mx : Int)) = false := by simp; omega
                have t4 : (u == mx) = false := by simp [e]
                have hS := mergeP_no (N := k) (lab := LB) (a := (f j 0).toNat) (b := (f j 1).toNat) (j := p) (by rw [← hu, ← HU0.out, ← HU1.out, ← hmx]; exact e)
                rw [hS] at hown
                clear hS e hu hmx hmn
                rcases (by omega : u0 < u1 ∨ u1 < u0 ∨ u0 = u1) with hq | hq | hq
                · go_wp2
                  go_roundw
                  case rel => exact ⟨p + 1, by omega, by go_num, hown, hb⟩
                  case measure => simp [intOf]; omega
                · go_wp2
                  go_roundw
                  case rel => exact ⟨p + 1, by omega, by go_num, hown, hb⟩
                  case measure => simp [intOf]; omega
                · go_wp2
                  go_roundw
                  case rel => exact ⟨p + 1, by omega, by go_num, hown, hb⟩
                  case measure => simp [intOf]; omega
            · have HE := Lib.hid (show labs k (mergeP LB (f j 0).toNat (f j 1).toNat p) = labs k (part_ f (j + 1)) by rw [show p = k by omega, mergeP_all, HS.out])
              rw [HE.out] at hown
              have p3 : ¬ (p : Int) < (k : Int) := by omega
              go_wp2
              go_roundw
              case rel => exact ⟨j + 1, by omega, by go_num, hown, hb⟩
              case measure => simp [intOf]; omega
        · have HE := Lib.hid (show labs k (part_ f j) = labs k (part_ f l) by rw [show j = l by omega])
          rw [HE.out] at hown
          have j3 : ¬ (j : Int) < (l : Int) := by omega
          go_wp2
          go_ret
          exact ⟨g, c2, rfl, hown, hb⟩
end Go.Proofs.Ytkgabnhfjmldbaa
