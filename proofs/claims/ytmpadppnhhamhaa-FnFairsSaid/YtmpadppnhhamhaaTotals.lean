/- Contracts of TotalsOf: the program's and the reference's. -/
import Derived.Test.YtmpadppnhhamhaaSheet
import Derived.Test.YtmpadppnhhamhaaPureT
import Derived.StillTailTactics
import Derived.Outline
namespace Go.Proofs.Ytmpadppnhhamhaa
open Go.ChangeShapes Go.WideShapes Go.ChangeAt Go.RowKit
theorem owns_zeros {w : World} {base g n : Nat} (h : w.ownsRow base 3 1 (.slice (some ⟨g, 0, none⟩) n n) n (madeCells (Value.int .i64 0).cells (n * 1)).toList) : OwnI w base (.slice (some ⟨g, 0, none⟩) n n) (List.replicate n 0) := by
  have e : (madeCells (Value.int .i64 0).cells (n * 1)).toList = (List.replicate n (0 : Int)).map (Value.int .i64) := by
    rw [List.map_replicate, Nat.mul_one]
    exact toList_madeCells_one _ _
  unfold OwnI
  rw [← e, List.length_replicate]
  exact h
set_option maxHeartbeats 2000000 in
theorem impl_totals (A : Option Addr) (n c : Nat) (z : Nat → List Int) (R : List Int) (B : Nat) (w : World) (h : RowII w B A n c z) (hB : B ≤ w.heap.size) (hR : Hid (R = totalsOf z n)) :
    Calls Try.prog 18 #[.slice A n c] w fun e w' => ∃ A2 c2, e = .returned (.slice A2 R.length c2) ∧ OwnI w' w.heap.size (.slice A2 R.length c2) R ∧ Below w.heap.size w w' := by
  obtain ⟨i0, hi, hz0, hz1, hz2⟩ := info_parts info_int
  rcases Bool.eq_false_or_eq_true (sheetOk z n) with hO | hO
  · obtain ⟨m, hm⟩ : ∃ m, m = (z 0).length := ⟨_, rfl⟩
    have hS : Sheet z n m := by rw [hm]; exact sheetOk_t hO
    have HR : Hid (R = totals z m n) := by
      have : totalsOf z n = totals z m n := by rw [hm]; simp [totalsOf, hO]
      rw [this] at hR
      exact hR
    have HM := Lib.hid hm
    clear hR hm
    have p0 := hS.n1
    have p9 := hS.n9
    have m1 := hS.m1
    have m12 := hS.m12
    go_enter Try.func18, Try.ntmps18
    go_wp2_with fail
    refine (impl_sheetOk A n c z B _ h).mono ?_
    rintro e w' ⟨rfl, rfl⟩
    obtain ⟨b, off, rfl, hbB, hrows⟩ := h.2.2 (by omega)
    obtain ⟨A0, c0, hc0, _⟩ := hrows 0 (by omega)
    rw [Nat.add_zero, ← HM.out] at hc0
    clear hrows
    go_wp2_with (refine wpList_make_full _ rfl _ _ 28 rfl w.heap.size 3 i0 (.int .i64 0) 1 Try.underlying28 hi hz0 hz1 .i64 .i64 _ _ m rfl rfl rfl rfl (by rw [hz2]; omega) (by unfold maxLen; omega) (Nat.le_refl _) ?_; intro w1 hown hgrow)
    have hown1 := owns_zeros hown
    have hb1 : Below w.heap.size w w1 := (Below.refl _ _).grown hgrow (Nat.le_refl _) (fun k h => by cases h)
    clear hown hgrow
    rw [← tot_start z m] at hown1
    go_loopw [5, 6, 7, 18] (fun _ _ _ i wr => ∃ j : Nat, j ≤ n ∧ i = .int .i64 j ∧ OwnI wr w.heap.size (.slice (some ⟨w.heap.size, 0, none⟩) m m) (tot z m j 0) ∧ Below w.heap.size w wr) (fun _ _ _ i _ => n - (intOf i).toNat)
    case atStart => exact ⟨0, Nat.zero_le _, rfl, hown1, hb1⟩
    case round =>
      obtain ⟨j, hj, rfl, hown, hb⟩ := hrel
      clear hown1 hb1
      by_cases hlt : j < n
      · have h2 : RowII wr B (some ⟨b, off, none⟩) n c z := h.keep fun p hp => hb.cell (by omega)
        obtain ⟨b', off', e', _, Aj, cj, hcj, hrj⟩ := h2.at_ hlt
        simp only [Option.some.injEq, Addr.mk.injEq, and_true] at e'
        obtain ⟨rfl, rfl⟩ := e'
        have hlj := hS.len j hlt
        rw [hlj] at hcj hrj
        clear hlj h2
        go_wp2_with fail
        obtain ⟨wo, rfl⟩ : ∃ wo : World, wo = wr := ⟨_, rfl⟩
        clear hcj
        go_loopw [6, 7, 24] (fun _ _ i wr => ∃ k : Nat, k ≤ m ∧ i = .int .i64 k ∧ OwnI wr w.heap.size (.slice (some ⟨w.heap.size, 0, none⟩) m m) (tot z m j k) ∧ Below w.heap.size w wr ∧ RowI .i64 wr B Aj m cj (z j)) (fun _ _ i _ => m - (intOf i).toNat)
        case atStart => exact ⟨0, Nat.zero_le _, rfl, hown, hb, hrj⟩
        case round =>
          clear hown hb hrj
          obtain ⟨k, hk, rfl, hown, hb, hrj⟩ := hrel
          by_cases hkl : k < m
          · obtain ⟨bj, oj, rfl, hbj, hcell⟩ := hrj.at_ hkl
            have hq := hown.cellAt (j := k) (by rw [tot_len]; exact hkl)
            rw [nth_tot hkl, if_neg (by omega)] at hq
            have hf := hown.frozenAt k
            have hs1 := colSum_bd hS hkl j (by omega)
            have hs2 := hS.bd j hlt k hkl
            have hown2 := hown.stored k (colSum z j k + nth (z j) k)
            rw [tot_set hkl] at hown2
            have hb2 := hb.setCell (p := ⟨w.heap.size, k, none⟩) (Nat.le_refl _) (.int .i64 (colSum z j k + nth (z j) k))
            have hr2 : RowI .i64 (wr.setCell ⟨w.heap.size, k, none⟩ (.int .i64 (colSum z j k + nth (z j) k))) B (some ⟨bj, oj, none⟩) m cj (z j) := hrj.keep fun p hp => World.cell?_setCell_other _ _ _ _ (fun e => by rw [← e] at hp; exact absurd hp (by show ¬ w.heap.size < B; omega))
            clear hown hb hrj
            go_wp2
            go_roundw
            case rel => exact ⟨k + 1, by omega, by go_num, hown2, hb2, hr2⟩
            case measure => simp [intOf]; omega
          · obtain rfl : k = m := by omega
            rw [tot_next] at hown
            go_wp2
            go_roundw
            case rel => exact ⟨j + 1, by omega, by go_num, hown, hb⟩
            case measure => simp [intOf]; omega
      · obtain rfl : j = n := by omega
        have hfin : OwnI wr w.heap.size (.slice (some ⟨w.heap.size, 0, none⟩) m m) R := by rw [tot_end, ← HR.out] at hown; exact hown
        have HL := Lib.hid (show R.length = m by rw [HR.out, totals_len])
        clear hown
        go_wp2
        go_ret
        rw [HL.out]
        exact ⟨_, _, rfl, hfin, hb⟩
  · have HR : Hid (R = []) := by
      have : totalsOf z n = [] := by simp [totalsOf, hO]
      rw [this] at hR
      exact hR
    clear hR
    go_enter Try.func18, Try.ntmps18
    go_wp2_with fail
    refine (impl_sheetOk A n c z B _ h).mono ?_
    rintro e w' ⟨rfl, rfl⟩
    go_wp2
    go_ret
    rw [HR.out]
    exact ⟨none, 0, rfl, own_nil _ _, Below.refl _ _⟩
set_option maxHeartbeats 2000000 in
theorem spec_totals (A : Option Addr) (n c : Nat) (z : Nat → List Int) (R : List Int) (B : Nat) (w : World) (h : RowII w B A n c z) (hB : B ≤ w.heap.size) (hR : Hid (R = totalsOf z n)) :
    Calls Try.prog 17 #[.slice A n c] w fun e w' => ∃ A2 c2, e = .returned (.slice A2 R.length c2) ∧ OwnI w' w.heap.size (.slice A2 R.length c2) R ∧ Below w.heap.size w w' := by
  obtain ⟨i0, hi, hz0, hz1, hz2⟩ := info_parts info_int
  rcases Bool.eq_false_or_eq_true (sheetOk z n) with hO | hO
  · obtain ⟨m, hm⟩ : ∃ m, m = (z 0).length := ⟨_, rfl⟩
    have hS : Sheet z n m := by rw [hm]; exact sheetOk_t hO
    have HR : Hid (R = totals z m n) := by
      have : totalsOf z n = totals z m n := by rw [hm]; simp [totalsOf, hO]
      rw [this] at hR
      exact hR
    have HM := Lib.hid hm
    clear hR hm
    have p0 := hS.n1
    have p9 := hS.n9
    have m1 := hS.m1
    have m12 := hS.m12
    go_enter Try.func17, Try.ntmps17
    go_wp2_with fail
    refine (spec_sheetOk_b A n c z B _ h).mono ?_
    rintro e w0 ⟨rfl, hb0⟩
    have h0 : RowII w0 B A n c z := h.keep fun p hp => hb0.cell (by omega)
    have hz0' := hb0.size
    obtain ⟨b, off, rfl, hbB, hrows⟩ := h0.2.2 (by omega)
    obtain ⟨A0, c0, hc0, _⟩ := hrows 0 (by omega)
    rw [Nat.add_zero, ← HM.out] at hc0
    clear hrows
    go_wp2_with (refine wpList_make_full _ rfl _ _ 28 rfl w0.heap.size 3 i0 (.int .i64 0) 1 Try.underlying28 hi hz0 hz1 .i64 .i64 _ _ m rfl rfl rfl rfl (by rw [hz2]; omega) (by unfold maxLen; omega) (Nat.le_refl _) ?_; intro w1 hown hgrow)
    have hown1 := owns_zeros hown
    have hb1 : Below w0.heap.size w0 w1 := (Below.refl _ _).grown hgrow (Nat.le_refl _) (fun k h => by cases h)
    clear hown hgrow hc0
    rw [← tot_start z m] at hown1
    go_loopw [4, 5] (fun i _ wr => ∃ j : Nat, j ≤ n ∧ i = .int .i64 j ∧ OwnI wr w0.heap.size (.slice (some ⟨w0.heap.size, 0, none⟩) m m) (tot z m j 0) ∧ Below w0.heap.size w0 wr) (fun i _ _ => n - (intOf i).toNat)
    case atStart => exact ⟨0, Nat.zero_le _, rfl, hown1, hb1⟩
    case round =>
      obtain ⟨j, hj, rfl, hown, hb⟩ := hrel
      clear hown1 hb1
      by_cases hlt : j < n
      · have h2 : RowII wr B (some ⟨b, off, none⟩) n c z := h0.keep fun p hp => hb.cell (by omega)
        go_wp2_with fail
        obtain ⟨wo, rfl⟩ : ∃ wo : World, wo = wr := ⟨_, rfl⟩
        go_loopw [5] (fun i wr => ∃ k : Nat, k ≤ m ∧ i = .int .i64 k ∧ OwnI wr w0.heap.size (.slice (some ⟨w0.heap.size, 0, none⟩) m m) (tot z m j k) ∧ Below w0.heap.size w0 wr ∧ RowII wr B (some ⟨b, off, none⟩) n c z) (fun i _ => m - (intOf i).toNat)
        case atStart => exact ⟨0, Nat.zero_le _, rfl, hown, hb, h2⟩
        case round =>
          clear hown hb h2
          obtain ⟨k, hk, rfl, hown, hb, h2⟩ := hrel
          by_cases hkl : k < m
          · obtain ⟨b', off', e', _, Aj, cj, hcj, hrj⟩ := h2.at_ hlt
            simp only [Option.some.injEq, Addr.mk.injEq, and_true] at e'
            obtain ⟨rfl, rfl⟩ := e'
            have hlj := hS.len j hlt
            rw [hlj] at hcj hrj
            clear hlj
            obtain ⟨bj, oj, rfl, hbj, hcell⟩ := hrj.at_ hkl
            have hq := hown.cellAt (j := k) (by rw [tot_len]; exact hkl)
            rw [nth_tot hkl, if_neg (by omega)] at hq
            have hf := hown.frozenAt k
            have hs1 := colSum_bd hS hkl j (by omega)
            have hs2 := hS.bd j hlt k hkl
            have hown2 := hown.stored k (colSum z j k + nth (z j) k)
            rw [tot_set hkl] at hown2
            have hb2 := hb.setCell (p := ⟨w0.heap.size, k, none⟩) (Nat.le_refl _) (.int .i64 (colSum z j k + nth (z j) k))
            have hr2 : RowII (wr.setCell ⟨w0.heap.size, k, none⟩ (.int .i64 (colSum z j k + nth (z j) k))) B (some ⟨b, off, none⟩) n c z := h2.keep fun p hp => World.cell?_setCell_other _ _ _ _ (fun e => by rw [← e] at hp; exact absurd hp (by show ¬ w0.heap.size < B; omega))
            have i0 : (0 : Int) ≤ (k : Int) := by omega
            have i1 : (k : Int) < (m : Int) := by omega
            have i2 : (0 : Int) ≤ (j : Int) := by omega
            have i3 : (j : Int) < (n : Int) := by omega
            have ew : IntKind.i64.wrap (colSum z j k + nth (z j) k) = colSum z j k + nth (z j) k := IntWalk.i64_in _ (by omega)
            clear hown hb hrj h2 hs1 hs2
            go_wp2_with fail
            go_still_tail 15, (by kernel_rfl)
            change wpList _ _ _ _ _ wr.drew
            go_wp2
            go_roundw
            case rel => exact ⟨k + 1, by omega, by go_num, hown2, hb2.drew, hr2⟩
            case measure => simp [intOf]; omega
          · obtain rfl : k = m := by omega
            rw [tot_next] at hown
            go_wp2
            go_roundw
            case rel => exact ⟨j + 1, by omega, by go_num, hown, hb⟩
            case measure => simp [intOf]; omega
      · obtain rfl : j = n := by omega
        have hfin : OwnI wr w.heap.size (.slice (some ⟨w0.heap.size, 0, none⟩) m m) R := by rw [tot_end, ← HR.out] at hown; exact hown.base hz0'
        have HL := Lib.hid (show R.length = m by rw [HR.out, totals_len])
        clear hown
        go_wp2
        go_ret
        rw [HL.out]
        exact ⟨_, _, rfl, hfin, hb0.trans (hb.mono hz0')⟩
  · have HR : Hid (R = []) := by
      have : totalsOf z n = [] := by simp [totalsOf, hO]
      rw [this] at hR
      exact hR
    clear hR
    go_enter Try.func17, Try.ntmps17
    go_wp2_with fail
    refine (spec_sheetOk_b A n c z B _ h).mono ?_
    rintro e w0 ⟨rfl, hb0⟩
    go_wp2
    go_ret
    rw [HR.out]
    exact ⟨_, _, rfl, (own_empty w0).base hb0.size, hb0.trans (((Below.refl _ _).alloc (Nat.le_refl _) _).mono hb0.size)⟩
end Go.Proofs.Ytmpadppnhhamhaa
