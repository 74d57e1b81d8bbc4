/- Contracts of IdleIn: the program's and the reference's. -/
import Derived.Test.YtkglgbdiakinlaaRii2
import Derived.Test.YtkglgbdiakinlaaPureI
import Derived.Outline
namespace Go.Proofs.Ytkglgbdiakinlaa
open Go.ChangeShapes Go.WideShapes Go.ChangeAt Go.RowKit
set_option maxHeartbeats 4000000 in
theorem impl_idle (A : Option Addr) (n c : Nat) (z : Nat → List Int) (R : List Int) (B : Nat) (w : World) (h : RowII w B A n c z) (hB : B ≤ w.heap.size) (hq : n + total z n ≤ 1048576) (hR : Hid (R = idles z n)) :
    Calls Try.prog 26 #[.slice A n c] w fun e w' => ∃ A2 c2, e = .returned (.slice A2 R.length c2) ∧ OwnI w' w.heap.size (.slice A2 R.length c2) R ∧ Below w.heap.size w w' := by
  have hRl : R.length = n := by rw [hR.out, idles_len]
  rw [hRl]
  have HL := Lib.hid hRl
  clear hRl
  go_enter Try.func26, Try.ntmps26
  go_wp2_with fail
  go_loopw [3, 5, 6, 7, 8, 12, 16, 17, 18] (fun v _ _ _ _ ix _ _ _ wr => ∃ j : Nat, j ≤ n ∧ ix = .int .i64 j ∧ ∃ A2 c2, v = .slice A2 j c2 ∧ OwnI wr w.heap.size (.slice A2 j c2) (R.take j) ∧ Below w.heap.size w wr) (fun _ _ _ _ _ ix _ _ _ _ => n - (intOf ix).toNat)
  case atStart => exact ⟨0, by omega, rfl, _, _, rfl, own_empty w, (Below.refl _ _).alloc (Nat.le_refl _) _⟩
  case round =>
    obtain ⟨j, hj, rfl, A2, c2, rfl, hown, hb⟩ := hrel
    by_cases hlt : j < n
    · have h2 : RowII wr B A n c z := h.keep fun p hp => hb.cell (by omega)
      obtain ⟨b, off, rfl, hbB, Aj, cj, hcj, hrj⟩ := h2.at_ hlt
      have htot := total_row z hlt
      obtain ⟨m, hm⟩ : ∃ m, m = (z j).length := ⟨_, rfl⟩
      have HM := Lib.hid hm
      rw [← hm] at hcj hrj htot
      clear hm h2
      have j0 : (0 : Int) ≤ (j : Int) := by omega
      have j3 : (j : Int) < (n : Int) := by omega
      go_wp2_with fail
      obtain ⟨wo, rfl⟩ : ∃ wo : World, wo = wr := ⟨_, rfl⟩
      go_loopw [6, 7, 8, 18] (fun u _ _ i wr => ∃ k : Nat, k ≤ m ∧ i = .int .i64 k ∧ u = .int .i64 (idleTo (z j) k) ∧ wr = wo) (fun _ _ _ i _ => m - (intOf i).toNat)
      case atStart => exact ⟨0, by omega, rfl, rfl, rfl⟩
      case round =>
        obtain ⟨k, hk, rfl, rfl, hwr⟩ := hrel
        subst hwr
        have hib := idleTo_bd (z j) k
        by_cases hkl : k < m
        · obtain ⟨bj, oj, rfl, hbj, hx⟩ := hrj.2.2.2.2 (by omega)
          have hxk := hx k hkl
          clear hx
          have k0 : (0 : Int) ≤ (k : Int) := by omega
          have k3 : (k : Int) < (m : Int) := by omega
          have HS := Lib.hid (show idleTo (z j) (k + 1) = idleTo (z j) k + (if (k : Int) = nth (z j) k then 1 else 0) from rfl)
          rcases Classical.em ((k : Int) = nth (z j) k) with q | q
          · have q1 : ((k : Int) == nth (z j) k) = true := beq_iff_eq.2 q
            have q2 : (nth (z j) k == (k : Int)) = true := beq_iff_eq.2 q.symm
            rw [if_pos q] at HS
            clear q
            go_wp2
            go_roundw
            case rel => exact ⟨k + 1, by omega, by go_num, by rw [HS.out], by simp⟩
            case measure => simp [intOf]; omega
          · have q1 : ((k : Int) == nth (z j) k) = false := beq_eq_false_iff_ne.2 q
            have q2 : (nth (z j) k == (k : Int)) = false := beq_eq_false_iff_ne.2 (Ne.symm q)
            rw [if_neg q, Int.add_zero] at HS
            clear q
            go_wp2
            go_roundw
            case rel => exact ⟨k + 1, by omega, by go_num, by rw [HS.out], by simp⟩
            case measure => simp [intOf]; omega
        · obtain rfl : k = m := by omega
          have HT := Lib.hid (take_succ_nth (xs := R) (k := j) (by rw [HL.out]; exact hlt))
          have HN := Lib.hid (show nth R j = idleTo (z j) k by rw [hR.out, nth_idles hlt, ← HM.out])
          have hlen : (R.take j).length = j := by rw [List.length_take, HL.out]; omega
          have hbw := hb.size
          go_wp2_with (at_builtin; refine app_shape rfl _ _ rfl w.heap.size _ (R.take j) (idleTo (z j) k) wr.heap.size j (by rw [hlen]) rfl (hown.alloc _) rfl (heap_alloc_new wr _) (by rw [hlen]; omega) (by simp; omega) ?_; intro A4 c4 w4 ho4 hb4)
          rw [← HN.out, ← HT.out] at ho4
          have hb5 := (hb.alloc hb.size _).trans hb4
          clear hb4 hown
          go_wp2
          go_roundw
          case rel => exact ⟨j + 1, by omega, by go_num, A4, c4, rfl, ho4, hb5⟩
          case measure => simp [intOf]; omega
    · obtain rfl : j = n := by omega
      rw [List.take_of_length_le (by rw [HL.out]; exact Nat.le_refl _)] at hown
      go_wp2
      go_ret
      exact ⟨A2, c2, rfl, hown, hb⟩
set_option maxHeartbeats 4000000 in
theorem spec_idle (A : Option Addr) (n c : Nat) (z : Nat → List Int) (R : List Int) (B : Nat) (w : World) (h : RowII w B A n c z) (hB : B ≤ w.heap.size) (hq : n + total z n ≤ 1048576) (hR : Hid (R = idles z n)) :
    Calls Try.prog 24 #[.slice A n c] w fun e w' => ∃ A2 c2, e = .returned (.slice A2 R.length c2) ∧ OwnI w' w.heap.size (.slice A2 R.length c2) R ∧ Below w.heap.size w w' := by
  have hRl : R.length = n := by rw [hR.out, idles_len]
  rw [hRl]
  have HL := Lib.hid hRl
  clear hRl
  go_enter Try.func24, Try.ntmps24
  go_wp2_with fail
  go_loopw [3, 4, 5, 6] (fun v ix _ _ wr => ∃ j : Nat, j ≤ n ∧ ix = .int .i64 j ∧ ∃ A2 c2, v = .slice A2 j c2 ∧ OwnI wr w.heap.size (.slice A2 j c2) (R.take j) ∧ Below w.heap.size w wr) (fun _ ix _ _ _ => n - (intOf ix).toNat)
  case atStart => exact ⟨0, by omega, rfl, _, _, rfl, own_empty w, (Below.refl _ _).alloc (Nat.le_refl _) _⟩
  case round =>
    obtain ⟨j, hj, rfl, A2, c2, rfl, hown, hb⟩ := hrel
    by_cases hlt : j < n
    · have h2 : RowII wr B A n c z := h.keep fun p hp => hb.cell (by omega)
      obtain ⟨b, off, rfl, hbB, Aj, cj, hcj, hrj⟩ := h2.at_ hlt
      have htot := total_row z hlt
      obtain ⟨m, hm⟩ : ∃ m, m = (z j).length := ⟨_, rfl⟩
      have HM := Lib.hid hm
      rw [← hm] at hcj hrj htot
      clear hm h2
      have j0 : (0 : Int) ≤ (j : Int) := by omega
      have j3 : (j : Int) < (n : Int) := by omega
      go_wp2_with fail
      obtain ⟨wo, rfl⟩ : ∃ wo : World, wo = wr := ⟨_, rfl⟩
      go_loopw [5, 6] (fun u i wr => ∃ k : Nat, k ≤ m ∧ i = .int .i64 k ∧ u = .int .i64 (idleTo (z j) k) ∧ wr = wo) (fun _ i _ => m - (intOf i).toNat)
      case atStart => exact ⟨0, by omega, rfl, rfl, rfl⟩
      case round =>
        obtain ⟨k, hk, rfl, rfl, hwr⟩ := hrel
        subst hwr
        have hib := idleTo_bd (z j) k
        by_cases hkl : k < m
        · obtain ⟨bj, oj, rfl, hbj, hx⟩ := hrj.2.2.2.2 (by omega)
          have hxk := hx k hkl
          clear hx
          have k0 : (0 : Int) ≤ (k : Int) := by omega
          have k3 : (k : Int) < (m : Int) := by omega
          have HS := Lib.hid (show idleTo (z j) (k + 1) = idleTo (z j) k + (if (k : Int) = nth (z j) k then 1 else 0) from rfl)
          rcases Classical.em ((k : Int) = nth (z j) k) with q | q
          · have q1 : ((k : Int) == nth (z j) k) = true := beq_iff_eq.2 q
            have q2 : (nth (z j) k == (k : Int)) = true := beq_iff_eq.2 q.symm
            rw [if_pos q] at HS
            clear q
            go_wp2
            go_roundw
            case rel => exact ⟨k + 1, by omega, by go_num, by rw [HS.out], by simp⟩
            case measure => simp [intOf]; omega
          · have q1 : ((k : Int) == nth (z j) k) = false := beq_eq_false_iff_ne.2 q
            have q2 : (nth (z j) k == (k : Int)) = false := beq_eq_false_iff_ne.2 (Ne.symm q)
            rw [if_neg q, Int.add_zero] at HS
            clear q
            go_wp2
            go_roundw
            case rel => exact ⟨k + 1, by omega, by go_num, by rw [HS.out], by simp⟩
            case measure => simp [intOf]; omega
        · obtain rfl : k = m := by omega
          have HT := Lib.hid (take_succ_nth (xs := R) (k := j) (by rw [HL.out]; exact hlt))
          have HN := Lib.hid (show nth R j = idleTo (z j) k by rw [hR.out, nth_idles hlt, ← HM.out])
          have hlen : (R.take j).length = j := by rw [List.length_take, HL.out]; omega
          have hbw := hb.size
          go_wp2_with (at_builtin; refine app_shape rfl _ _ rfl w.heap.size _ (R.take j) (idleTo (z j) k) wr.heap.size j (by rw [hlen]) rfl (hown.alloc _) rfl (heap_alloc_new wr _) (by rw [hlen]; omega) (by simp; omega) ?_; intro A4 c4 w4 ho4 hb4)
          rw [← HN.out, ← HT.out] at ho4
          have hb5 := (hb.alloc hb.size _).trans hb4
          clear hb4 hown
          go_wp2
          go_roundw
          case rel => exact ⟨j + 1, by omega, by go_num, A4, c4, rfl, ho4, hb5⟩
          case measure => simp [intOf]; omega
    · obtain rfl : j = n := by omega
      rw [List.take_of_length_le (by rw [HL.out]; exact Nat.le_refl _)] at hown
      go_wp2
      go_ret
      exact ⟨A2, c2, rfl, hown, hb⟩
end Go.Proofs.Ytkglgbdiakinlaa
