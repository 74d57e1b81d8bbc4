/- Contracts of TrimmedOf: the program's and the reference's. -/
import Derived.Test.YtmpadppnhhamhaaTotals
import Derived.Test.YtmpadppnhhamhaaPureU
namespace Go.Proofs.Ytmpadppnhhamhaa
open Go.ChangeShapes Go.WideShapes Go.ChangeAt Go.RowKit
set_option maxRecDepth 100000 in
set_option maxHeartbeats 4000000 in
theorem impl_trimmed (A : Option Addr) (n c : Nat) (z : Nat → List Int) (R : List Int) (B : Nat) (w : World) (h : RowII w B A n c z) (hB : B ≤ w.heap.size) (hR : Hid (R = trimmedOf z n)) :
    Calls Try.prog 26 #[.slice A n c] w fun e w' => ∃ A2 c2, e = .returned (.slice A2 R.length c2) ∧ OwnI w' w.heap.size (.slice A2 R.length c2) R ∧ Below w.heap.size w w' := by
  have hcap := h.cap
  unfold maxLen at hcap
  obtain ⟨R0, hR0'⟩ : ∃ R0, R0 = totalsOf z n := ⟨_, rfl⟩
  have hR0 := Lib.hid hR0'
  rcases Bool.eq_false_or_eq_true (sheetOk z n) with hO | hO
  · obtain ⟨m, hm⟩ : ∃ m, m = (z 0).length := ⟨_, rfl⟩
    have hS : Sheet z n m := by rw [hm]; exact sheetOk_t hO
    have e1 : totalsOf z n = totals z m n := by rw [hm]; simp [totalsOf, hO]
    have HT := Lib.hid (show R0 = totals z m n by rw [hR0', e1])
    have HL := Lib.hid (show R0.length = m by rw [hR0', e1, totals_len])
    have p0 := hS.n1
    have p9 := hS.n9
    have m1 := hS.m1
    have m12 := hS.m12
    rcases (by omega : n < 3 ∨ 3 ≤ n) with h3 | h3
    · have HR : Hid (R = R0) := by
        have : trimmedOf z n = R0 := by rw [hR0', e1, hm]; simp [trimmedOf, hO, h3]
        rw [this] at hR
        exact hR
      clear hR hR0' e1 hm
      go_enter Try.func26, Try.ntmps26
      go_wp2_with fail
      refine (impl_totals A n c z R0 B _ h hB hR0).mono ?_
      rintro e w1 ⟨A2, c2, rfl, ho, hb1⟩
      rw [HL.out] at ho ⊢
      go_wp2
      go_ret
      rw [HR.out, HL.out]
      exact ⟨A2, c2, rfl, ho, hb1⟩
    · have HR : Hid (R = trims z m n) := by
        have : trimmedOf z n = trims z m n := by rw [hm]; simp [trimmedOf, hO, show ¬ n < 3 by omega]
        rw [this] at hR
        exact hR
      clear hR hR0' e1 hm
      go_enter Try.func26, Try.ntmps26
      go_wp2_with fail
      refine (impl_totals A n c z R0 B _ h hB hR0).mono ?_
      rintro e w1 ⟨A2, c2, rfl, ho, hb1⟩
      rw [HL.out] at ho ⊢
      rw [HT.out, ← trimUp_start] at ho
      obtain ⟨hform0, hform⟩ := ho.form
      clear hform0
      rcases hform with ⟨_, hbad⟩ | ⟨g, rfl⟩
      · omega
      have hg := ho.ge
      have hm3 : ((m : Int) == 0) = false := beq_eq_false_iff_ne.2 (by omega)
      go_wp2_with fail
      go_loopw [4, 5, 6, 8, 22] (fun _ _ _ _ v wr => ∃ i : Nat, i ≤ m ∧ v = .int .i64 i ∧ OwnI wr w.heap.size (.slice (some ⟨g, 0, none⟩) m c2) (trimUp z m n i) ∧ Below w.heap.size w wr) (fun _ _ _ _ v _ => m - (intOf v).toNat)
      case atStart => exact ⟨0, by omega, rfl, ho, hb1⟩
      case round =>
        clear ho hb1
        obtain ⟨i, hi, rfl, ho, hb⟩ := hrel
        by_cases hil : i < m
        · go_wp2_with fail
          obtain ⟨wo, rfl⟩ : ∃ wo : World, wo = wr := ⟨_, rfl⟩
          go_loopw [5, 6, 8, 27] (fun lo hi' _ v wr => ∃ j : Nat, j ≤ n ∧ v = .int .i64 j ∧ lo = .int .i64 (lowTo z i j) ∧ hi' = .int .i64 (highTo z i j) ∧ OwnI wr w.heap.size (.slice (some ⟨g, 0, none⟩) m c2) (trimUp z m n i) ∧ Below w.heap.size w wr) (fun _ _ _ v _ => n - (intOf v).toNat)
          case atStart => exact ⟨0, by omega, rfl, rfl, rfl, ho, hb⟩
          case round =>
            clear ho hb
            obtain ⟨j, hj, rfl, rfl, rfl, ho, hb⟩ := hrel
            by_cases hjl : j < n
            · have h2 : RowII wr B A n c z := h.keep fun p hp => hb.cell (by omega)
              obtain ⟨b, off, rfl, _, Aj, cj, hcj, hrj⟩ := h2.at_ hjl
              have hlj := hS.len j hjl
              rw [hlj] at hcj hrj
              clear hlj h2
              obtain ⟨bj, oj, rfl, hbj, hx⟩ := hrj.at_ hil
              have i0 : (0 : Int) ≤ (i : Int) := by omega
              have i1 : (i : Int) < (m : Int) := by omega
              have HS1 := Lib.hid (show lowTo z i (j + 1) = min (lowTo z i j) (nth (z j) i) from rfl)
              have HS2 := Lib.hid (show highTo z i (j + 1) = max (highTo z i j) (nth (z j) i) from rfl)
              go_wp2_with fail
              go_quiet (fail)
              go_wp2
              go_roundw
              case rel => refine ⟨j + 1, by omega, by go_num, ?_, ?_, ho, ⟨hb.os, hb.tape, hb.output, hb.size, hb.block⟩⟩ <;> (first | rw [HS1.out] | rw [HS2.out]) <;> congr 1 <;> omega
              case measure => simp [intOf]; omega
            · obtain rfl : j = n := by omega
              have hq := ho.cellAt (j := i) (by rw [trimUp_len]; exact hil)
              rw [nth_trimUp hil, if_neg (by omega)] at hq
              have hf := ho.frozenAt i
              have c1 := colSum_bd hS hil j (Nat.le_refl _)
              have c3 := low_bd hS hil j (Nat.le_refl _)
              have c4 := high_bd hS hil j (Nat.le_refl _)
              have ho2 := ho.stored i (trim1 z j i)
              rw [trimUp_set hil] at ho2
              have hb2 := hb.setCell (p := ⟨g, i, none⟩) hg.1 (.int .i64 (trim1 z j i))
              unfold trim1 at ho2 hb2
              clear ho hb
              go_wp2
              go_roundw
              case rel => exact ⟨i + 1, by omega, by go_num, ho2, hb2⟩
              case measure => simp [intOf]; omega
        · obtain rfl : i = m := by omega
          rw [trimUp_end, ← HR.out] at ho
          have HL3 := Lib.hid (show R.length = i by rw [HR.out, trims_len])
          go_wp2
          go_ret
          rw [HL3.out]
          exact ⟨_, _, rfl, ho, hb⟩
  · have HR : Hid (R = []) := by
      have : trimmedOf z n = [] := by simp [trimmedOf, hO]
      rw [this] at hR
      exact hR
    have HL := Lib.hid (show R0 = [] by rw [hR0']; simp [totalsOf, hO])
    have HL2 := Lib.hid (show R0.length = 0 by rw [HL.out]; rfl)
    clear hR hR0'
    go_enter Try.func26, Try.ntmps26
    go_wp2_with fail
    refine (impl_totals A n c z R0 B _ h hB hR0).mono ?_
    rintro e w1 ⟨A2, c2, rfl, ho, hb1⟩
    rw [HL2.out] at ho ⊢
    go_wp2
    go_ret
    rw [HR.out, ← HL.out, HL2.out]
    exact ⟨A2, c2, rfl, ho, hb1⟩
set_option maxRecDepth 100000 in
set_option maxHeartbeats 4000000 in
theorem spec_trimmed (A : Option Addr) (n c : Nat) (z : Nat → List Int) (R : List Int) (B : Nat) (w : World) (h : RowII w B A n c z) (hB : B ≤ w.heap.size) (hR : Hid (R = trimmedOf z n)) :
    Calls Try.prog 25 #[.slice A n c] w fun e w' => ∃ A2 c2, e = .returned (.slice A2 R.length c2) ∧ OwnI w' w.heap.size (.slice A2 R.length c2) R ∧ Below w.heap.size w w' := by
  have hcap := h.cap
  unfold maxLen at hcap
  obtain ⟨R0, hR0'⟩ : ∃ R0, R0 = totalsOf z n := ⟨_, rfl⟩
  have hR0 := Lib.hid hR0'
  rcases Bool.eq_false_or_eq_true (sheetOk z n) with hO | hO
  · obtain ⟨m, hm⟩ : ∃ m, m = (z 0).length := ⟨_, rfl⟩
    have hS : Sheet z n m := by rw [hm]; exact sheetOk_t hO
    have e1 : totalsOf z n = totals z m n := by rw [hm]; simp [totalsOf, hO]
    have HT := Lib.hid (show R0 = totals z m n by rw [hR0', e1])
    have HL := Lib.hid (show R0.length = m by rw [hR0', e1, totals_len])
    have p0 := hS.n1
    have p9 := hS.n9
    have m1 := hS.m1
    have m12 := hS.m12
    rcases (by omega : n < 3 ∨ 3 ≤ n) with h3 | h3
    · have HR : Hid (R = R0) := by
        have : trimmedOf z n = R0 := by rw [hR0', e1, hm]; simp [trimmedOf, hO, h3]
        rw [this] at hR
        exact hR
      clear hR hR0' e1 hm
      go_enter Try.func25, Try.ntmps25
      go_wp2_with fail
      refine (spec_totals A n c z R0 B _ h hB hR0).mono ?_
      rintro e w1 ⟨A2, c2, rfl, ho, hb1⟩
      rw [HL.out] at ho ⊢
      go_wp2
      go_ret
      rw [HR.out, HL.out]
      exact ⟨A2, c2, rfl, ho, hb1⟩
    · have HR : Hid (R = trims z m n) := by
        have : trimmedOf z n = trims z m n := by rw [hm]; simp [trimmedOf, hO, show ¬ n < 3 by omega]
        rw [this] at hR
        exact hR
      clear hR hR0' e1 hm
      go_enter Try.func25, Try.ntmps25
      go_wp2_with fail
      refine (spec_totals A n c z R0 B _ h hB hR0).mono ?_
      rintro e w1 ⟨A2, c2, rfl, ho, hb1⟩
      rw [HL.out] at ho ⊢
      rw [HT.out, ← trimUp_start] at ho
      obtain ⟨hform0, hform⟩ := ho.form
      clear hform0
      rcases hform with ⟨_, hbad⟩ | ⟨g, rfl⟩
      · omega
      have hg := ho.ge
      have hm3 : ((m : Int) == 0) = false := beq_eq_false_iff_ne.2 (by omega)
      go_wp2_with fail
      go_loopw [4, 5, 6, 7] (fun v _ _ _ wr => ∃ i : Nat, i ≤ m ∧ v = .int .i64 i ∧ OwnI wr w.heap.size (.slice (some ⟨g, 0, none⟩) m c2) (trimUp z m n i) ∧ Below w.heap.size w wr) (fun v _ _ _ _ => m - (intOf v).toNat)
      case atStart => exact ⟨0, by omega, rfl, ho, hb1⟩
      case round =>
        clear ho hb1
        obtain ⟨i, hi, rfl, ho, hb⟩ := hrel
        by_cases hil : i < m
        · have h2 : RowII wr B A n c z := h.keep fun p hp => hb.cell (by omega)
          obtain ⟨b, off, rfl, _, A0, c0, hc0, hr0⟩ := h2.at_ (show 0 < n by omega)
          rw [Nat.add_zero] at hc0
          have hl0 := hS.len 0 (by omega)
          rw [hl0] at hc0 hr0
          clear hl0 h2
          obtain ⟨b0, o0, rfl, hb0, hx0⟩ := hr0.at_ hil
          have HZ1 := Lib.hid (lowS_zero hS hil)
          have HZ2 := Lib.hid (highS_zero hS hil)
          clear hr0
          go_wp2_with fail
          obtain ⟨wo, rfl⟩ : ∃ wo : World, wo = wr := ⟨_, rfl⟩
          go_loopw [5, 6, 7] (fun lo hi' v wr => ∃ j : Nat, j ≤ n ∧ v = .int .i64 j ∧ lo = .int .i64 (lowS z i j) ∧ hi' = .int .i64 (highS z i j) ∧ OwnI wr w.heap.size (.slice (some ⟨g, 0, none⟩) m c2) (trimUp z m n i) ∧ Below w.heap.size w wr) (fun _ _ v _ => n - (intOf v).toNat)
          case atStart => exact ⟨0, by omega, rfl, by rw [← HZ1.out], by rw [← HZ2.out], ho, hb⟩
          case round =>
            clear ho hb hc0 hx0
            obtain ⟨j, hj, rfl, rfl, rfl, ho, hb⟩ := hrel
            by_cases hjl : j < n
            · have h2 : RowII wr B (some ⟨b, off, none⟩) n c z := h.keep fun p hp => hb.cell (by omega)
              obtain ⟨b', off', e', _, Aj, cj, hcj, hrj⟩ := h2.at_ hjl
              simp only [Option.some.injEq, Addr.mk.injEq, and_true] at e'
              obtain ⟨rfl, rfl⟩ := e'
              have hlj := hS.len j hjl
              rw [hlj] at hcj hrj
              clear hlj h2
              obtain ⟨bj, oj, rfl, hbj, hx⟩ := hrj.at_ hil
              have i0 : (0 : Int) ≤ (i : Int) := by omega
              have i1 : (i : Int) < (m : Int) := by omega
              have HS1 := Lib.hid (lowS_next z i j)
              have HS2 := Lib.hid (highS_next z i j)
              go_wp2
              all_goals go_roundw
              all_goals (first | (case rel => refine ⟨j + 1, by omega, by go_num, ?_, ?_, ho, hb⟩ <;> (first | rw [HS1.out] | rw [HS2.out]) <;> congr 1 <;> omega) | skip)
              all_goals (simp [intOf]; omega)
            · obtain rfl : j = n := by omega
              have hq := ho.cellAt (j := i) (by rw [trimUp_len]; exact hil)
              rw [nth_trimUp hil, if_neg (by omega)] at hq
              have hf := ho.frozenAt i
              have c1 := colSum_bd hS hil j (Nat.le_refl _)
              have c3 := low_bd hS hil j (Nat.le_refl _)
              have c4 := high_bd hS hil j (Nat.le_refl _)
              have ho2 := ho.stored i (trim1 z j i)
              rw [trimUp_set hil] at ho2
              have hb2 := hb.setCell (p := ⟨g, i, none⟩) hg.1 (.int .i64 (trim1 z j i))
              have e5 : trim1 z j i = colSum z j i - lowTo z i j - highTo z i j := by unfold trim1; omega
              rw [e5] at ho2 hb2
              rw [lowS_end hS hil, highS_end hS hil]
              clear ho hb e5
              go_wp2
              go_roundw
              case rel => exact ⟨i + 1, by omega, by go_num, ho2, hb2⟩
              case measure => simp [intOf]; omega
        · obtain rfl : i = m := by omega
          rw [trimUp_end, ← HR.out] at ho
          have HL3 := Lib.hid (show R.length = i by rw [HR.out, trims_len])
          go_wp2
          go_ret
          rw [HL3.out]
          exact ⟨_, _, rfl, ho, hb⟩
  · have HR : Hid (R = []) := by
      have : trimmedOf z n = [] := by simp [trimmedOf, hO]
      rw [this] at hR
      exact hR
    have HL := Lib.hid (show R0 = [] by rw [hR0']; simp [totalsOf, hO])
    have HL2 := Lib.hid (show R0.length = 0 by rw [HL.out]; rfl)
    clear hR hR0'
    go_enter Try.func25, Try.ntmps25
    go_wp2_with fail
    refine (spec_totals A n c z R0 B _ h hB hR0).mono ?_
    rintro e w1 ⟨A2, c2, rfl, ho, hb1⟩
    rw [HL2.out] at ho ⊢
    rcases (by omega : n < 3 ∨ 3 ≤ n) with h3 | h3
    · go_wp2
      go_ret
      rw [HR.out, ← HL.out, HL2.out]
      exact ⟨A2, c2, rfl, ho, hb1⟩
    · go_wp2_with fail
      refine wp_loop_rounds 1 ?_
      rw [rounds_succ]
      go_wp2
      go_ret
      rw [HR.out, ← HL.out, HL2.out]
      exact ⟨A2, c2, rfl, ho, hb1⟩
end Go.Proofs.Ytmpadppnhhamhaa
