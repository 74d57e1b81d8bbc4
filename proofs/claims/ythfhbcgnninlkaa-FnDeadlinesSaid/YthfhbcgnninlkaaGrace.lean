/- Contracts of GraceNeeded and LateMembers: the program's and the reference's. -/
import Derived.Test.YthfhbcgnninlkaaParcels
import Derived.Test.YthfhbcgnninlkaaLate
import Derived.Test.YthfhbcgnninlkaaPut
import Derived.Test.YthfhbcgnninlkaaBools
import Derived.Test.YthfhbcgnninlkaaPureJ
namespace Go.Proofs.Ythfhbcgnninlkaa
open Go.ChangeShapes Go.WideShapes Go.ChangeAt Go.RowKit
set_option maxHeartbeats 4000000 in
theorem lateness_any (A : Option Addr) (n c : Nat) (f : Nat → Nat → Int) (a d t : Int) (R : List Int) (g : Bool) (B : Nat) (w : World) (h : RowP 4 w B A n c f) (hB : B ≤ w.heap.size) (hn : n ≤ 1048576) (hR : Hid (R = if lateOk f a d t n then lates f a d t n else [])) (hg : Hid (g = graceOk f a d t n)) :
    Calls Try.prog 68 #[.slice A n c, .int .i64 a, .int .i64 d, .int .i64 t] w fun e w' => ∃ A2 c2, e = .returned (.tuple #[.slice A2 R.length c2, .bool g]) ∧ OwnI w' w.heap.size (.slice A2 R.length c2) R ∧ Below w.heap.size w w' := by
  have hcap := h.cap
  unfold maxLen at hcap
  go_enter Try.func68, Try.ntmps68
  go_wp2_with fail
  go_loopw [10, 12, 13, 17] (fun v _ _ i wr => ∃ (k : Nat) (A2 : Option Addr) (c2 : Nat), k ≤ n ∧ i = .int .i64 k ∧ v = .slice A2 k c2 ∧ Hid (lateOk f a d t k = true) ∧ OwnI wr w.heap.size (.slice A2 k c2) (lates f a d t k) ∧ Below w.heap.size w wr) (fun _ _ _ i _ => n - (intOf i).toNat)
  case atStart => exact ⟨0, _, _, by omega, rfl, rfl, Lib.hid rfl, own_empty w, (Below.refl _ _).alloc (Nat.le_refl _) _⟩
  case round =>
    obtain ⟨k, A2, c2, hk, rfl, rfl, hL, hown, hb⟩ := hrel
    have hbw := hb.size
    by_cases hlt : k < n
    · have h2 : RowP 4 wr B A n c f := h.keep fun p hp => hb.cell (by omega)
      obtain ⟨b, off, rfl, hbB, hc⟩ := h2.at_ hlt
      have x0 : wr.cell? ⟨b, off + k * 4, none⟩ = some (.int .i64 (f k 0)) := by exact hc 0 (by omega)
      have x1 : wr.cell? ⟨b, off + k * 4 + 1, none⟩ = some (.int .i64 (f k 1)) := by rw [Nat.add_assoc]; exact hc 1 (by omega)
      have x2 : wr.cell? ⟨b, off + k * 4 + 2, none⟩ = some (.int .i64 (f k 2)) := by rw [Nat.add_assoc]; exact hc 2 (by omega)
      have x3 : wr.cell? ⟨b, off + k * 4 + 3, none⟩ = some (.int .i64 (f k 3)) := by rw [Nat.add_assoc]; exact hc 3 (by omega)
      have k0 : (0 : Int) ≤ (k : Int) := by omega
      have k3 : (k : Int) < (n : Int) := by omega
      have hbd := lateAt_bd f a d t k
      have HS := Lib.hid (lates_step f a d t k)
      clear hc h2
      go_wp2_with fail
      refine (impl_late (f k) a d t _).mono ?_
      rintro e w2 ⟨rfl, hb2⟩
      have hown2 := (hown.alloc (.cells #[.int .i64 (f k 0), .int .i64 (f k 1), .int .i64 (f k 2), .int .i64 (f k 3)] 42)).keep hb2
      have hb3 := (hb.alloc hb.size (.cells #[.int .i64 (f k 0), .int .i64 (f k 1), .int .i64 (f k 2), .int .i64 (f k 3)] 42)).trans (hb2.mono (by simp; omega))
      have hz2 := hb3.size
      clear hown hb hb2 x0 x1 x2 x3
      obtain ⟨q, hq⟩ : ∃ q, q = lateAt f a d t k := ⟨_, rfl⟩
      have HQ := Lib.hid hq
      rw [← hq] at hbd
      change _ = lateDays (f k) a d t at hq
      rw [← hq]
      clear hq
      rcases (by omega : q < 0 ∨ 0 ≤ q) with hq0 | hq0
      · have hno := Lib.hid (show graceOk f a d t n = false from lateOk_no hlt (by rw [← HQ.out]; exact hq0))
        have HO := Lib.hid (show lateOk f a d t n = false from allTo_no (p := fun k => decide (0 ≤ lateAt f a d t k)) hlt (decide_eq_false (by rw [← HQ.out]; omega)))
        have HG := Lib.hid (hg.out.trans hno.out)
        have HR := Lib.hid (show R = [] by rw [hR.out, HO.out]; rfl)
        go_wp2
        go_ret2
        rw [HR.out, HG.out]
        exact ⟨none, 0, rfl, own_nil _ _, hb3⟩
      · have HL := Lib.hid (show lateOk f a d t (k + 1) = true from allTo_step (p := fun k => decide (0 ≤ lateAt f a d t k)) hL.out (decide_eq_true (by rw [← HQ.out]; exact hq0)))
        have hlen := Lib.hid hown2.form.1
        go_wp2_with (at_builtin; refine app_shape rfl _ _ rfl w.heap.size _ (lates f a d t k) q w2.heap.size k (hlen.out.symm) rfl (hown2.alloc _) rfl (heap_alloc_new w2 _) (by rw [← hlen.out]; omega) (by simp; omega) ?_; intro A4 c4 w4 ho4 hb4)
        rw [HQ.out, ← HS.out] at ho4
        have hb5 := (hb3.alloc hb3.size _).trans hb4
        clear hb4 hb3 hown2
        go_wp2
        go_roundw
        case rel => exact ⟨k + 1, A4, c4, by omega, by go_num, rfl, HL, ho4, hb5⟩
        case measure => simp [intOf]; omega
    · obtain rfl : k = n := by omega
      have k3 : ¬ (k : Int) < (k : Int) := by omega
      have HR := Lib.hid (show R = lates f a d t k by rw [hR.out, hL.out]; rfl)
      have HG := Lib.hid (show g = decide (k ≤ 60) by rw [hg.out]; unfold graceOk; rw [hL.out, Bool.and_true])
      have HLn := Lib.hid (show R.length = k by rw [HR.out, lates_len])
      rw [← HR.out] at hown
      rcases (by omega : k ≤ 60 ∨ 60 < k) with q | q
      · have HG2 := Lib.hid (show g = true by rw [HG.out]; exact decide_eq_true q)
        have q2 : (k : Int) ≤ 60 := by omega
        go_wp2
        go_ret2
        rw [HLn.out, HG2.out]
        exact ⟨A2, c2, rfl, hown, hb⟩
      · have HG2 := Lib.hid (show g = false by rw [HG.out]; exact decide_eq_false (by omega))
        have q2 : ¬ (k : Int) ≤ 60 := by omega
        have q3 : decide (k ≤ 60) = false := decide_eq_false (by omega)
        go_wp2
        go_ret2
        rw [HLn.out, HG2.out]
        exact ⟨A2, c2, rfl, hown, hb⟩
set_option maxHeartbeats 4000000 in
theorem impl_grace (A : Option Addr) (n c : Nat) (f : Nat → Nat → Int) (a d t : Int) (B : Nat) (w : World) (h : RowP 4 w B A n c f) (hB : B ≤ w.heap.size) (hn : n ≤ 1048576) :
    Calls Try.prog 42 #[.slice A n c, .int .i64 a, .int .i64 d, .int .i64 t] w fun e w' => e = .returned (.int .i64 (graceN f a d t n)) ∧ Below w.heap.size w w' := by
  obtain ⟨R, hR⟩ : ∃ R, R = if lateOk f a d t n then lates f a d t n else [] := ⟨_, rfl⟩
  obtain ⟨g, hg⟩ : ∃ g, g = graceOk f a d t n := ⟨_, rfl⟩
  have HR := Lib.hid hR
  have HG := Lib.hid hg
  clear hR hg
  cases g
  · have HE := Lib.hid (show graceN f a d t n = -1 by unfold graceN; rw [← HG.out]; rfl)
    go_enter Try.func42, Try.ntmps42
    go_wp2_with fail
    refine (lateness_any A n c f a d t R false B _ h hB hn HR HG).mono ?_
    rintro e w1 ⟨A2, c2, rfl, ho1, hb1⟩
    go_wp2
    go_ret
    exact ⟨ret_int HE.out.symm, hb1⟩
  · have HE := Lib.hid (show graceN f a d t n = graceTo f a d t n by unfold graceN; rw [← HG.out]; rfl)
    have HRl := Lib.hid (show R = lates f a d t n by rw [HR.out]; have := HG.out.symm; unfold graceOk at this; rw [(Bool.and_eq_true_iff.1 this).2]; rfl)
    have hRl : R.length = n := by rw [HRl.out, lates_len]
    have HLn := Lib.hid hRl
    clear hRl
    go_enter Try.func42, Try.ntmps42
    go_wp2_with fail
    refine (lateness_any A n c f a d t R true B _ h hB hn HR HG).mono ?_
    rintro e w1 ⟨A2, c2, rfl, ho1, hb1⟩
    rw [HLn.out] at ho1 ⊢
    have hr1 := ho1.rowI (by rw [HRl.out]; exact lates_wf f a d t n)
    clear ho1
    go_wp2_with fail
    go_loop [11, 13, 26] (fun v _ i => ∃ k : Nat, k ≤ n ∧ i = .int .i64 k ∧ v = .int .i64 (graceTo f a d t k)) (fun _ _ i => n - (intOf i).toNat)
    case atStart => exact ⟨0, by omega, rfl, rfl⟩
    case round =>
      obtain ⟨k, hk, rfl, rfl⟩ := hrel
      have hbd := graceTo_bd f a d t k
      by_cases hlt : k < n
      · have hx0 : nth R k = lateAt f a d t k := by rw [HRl.out, nth_lates f a d t hlt]
        obtain ⟨b, off, rfl, hbB, hc⟩ := hr1.at_ hlt
        rw [hx0] at hc
        have hb2 := lateAt_bd f a d t k
        have k0 : (0 : Int) ≤ (k : Int) := by omega
        have k3 : (k : Int) < (n : Int) := by omega
        have HS := Lib.hid (show graceTo f a d t (k + 1) = max (graceTo f a d t k) (lateAt f a d t k) from rfl)
        clear hx0
        rcases (by omega : graceTo f a d t k < lateAt f a d t k ∨ lateAt f a d t k ≤ graceTo f a d t k) with q | q
        · go_wp2
          go_round
          case rel => exact ⟨k + 1, by omega, by go_num, by rw [HS.out]; congr 1; omega⟩
          case measure => simp [intOf]; omega
        · go_wp2
          go_round
          case rel => exact ⟨k + 1, by omega, by go_num, by rw [HS.out]; congr 1; omega⟩
          case measure => simp [intOf]; omega
      · obtain rfl : k = n := by omega
        have k3 : ¬ (k : Int) < (k : Int) := by omega
        go_wp2
        go_ret
        exact ⟨ret_int HE.out.symm, hb1⟩
set_option maxHeartbeats 4000000 in
theorem spec_grace (A : Option Addr) (n c : Nat) (f : Nat → Nat → Int) (a d t : Int) (B : Nat) (w : World) (h : RowP 4 w B A n c f) (hB : B ≤ w.heap.size) (hn : n ≤ 1048576) :
    Calls Try.prog 40 #[.slice A n c, .int .i64 a, .int .i64 d, .int .i64 t] w fun e w' => e = .returned (.int .i64 (graceN f a d t n)) ∧ Below w.heap.size w w' := by
  have hcap := h.cap
  unfold maxLen at hcap
  go_enter Try.func40, Try.ntmps40
  go_wp2_with fail
  go_loopw [9, 10, 11] (fun v i _ wr => ∃ k : Nat, k ≤ n ∧ i = .int .i64 k ∧ v = .int .i64 (graceTo f a d t k) ∧ Hid (lateOk f a d t k = true) ∧ (0 < k → n ≤ 60) ∧ Below w.heap.size w wr) (fun _ i _ _ => n - (intOf i).toNat)
  case atStart => exact ⟨0, by omega, rfl, rfl, Lib.hid rfl, by omega, Below.refl _ _⟩
  case round =>
    obtain ⟨k, hk, rfl, rfl, hL, h60, hb⟩ := hrel
    have hbw := hb.size
    have hbg := graceTo_bd f a d t k
    by_cases hlt : k < n
    · have h2 : RowP 4 wr B A n c f := h.keep fun p hp => hb.cell (by omega)
      obtain ⟨b, off, rfl, hbB, hc⟩ := h2.at_ hlt
      have x0 : wr.cell? ⟨b, off + k * 4, none⟩ = some (.int .i64 (f k 0)) := by exact hc 0 (by omega)
      have x1 : wr.cell? ⟨b, off + k * 4 + 1, none⟩ = some (.int .i64 (f k 1)) := by rw [Nat.add_assoc]; exact hc 1 (by omega)
      have x2 : wr.cell? ⟨b, off + k * 4 + 2, none⟩ = some (.int .i64 (f k 2)) := by rw [Nat.add_assoc]; exact hc 2 (by omega)
      have x3 : wr.cell? ⟨b, off + k * 4 + 3, none⟩ = some (.int .i64 (f k 3)) := by rw [Nat.add_assoc]; exact hc 3 (by omega)
      have k0 : (0 : Int) ≤ (k : Int) := by omega
      have k3 : (k : Int) < (n : Int) := by omega
      have hbd := lateAt_bd f a d t k
      clear hc h2
      go_wp2_with fail
      refine (spec_late (f k) a d t _).mono ?_
      rintro e w2 ⟨rfl, hb2⟩
      have hb3 := hb.trans (hb2.mono (by omega))
      clear hb hb2 x0 x1 x2 x3
      obtain ⟨q, hq⟩ : ∃ q, q = lateAt f a d t k := ⟨_, rfl⟩
      have HQ := Lib.hid hq
      rw [← hq] at hbd
      change _ = lateDays (f k) a d t at hq
      rw [← hq]
      clear hq
      have HS := Lib.hid (show graceTo f a d t (k + 1) = max (graceTo f a d t k) q by rw [HQ.out]; rfl)
      rcases (by omega : q < 0 ∨ 0 ≤ q) with hq0 | hq0
      · have HE := Lib.hid (show graceN f a d t n = -1 by unfold graceN; rw [lateOk_no hlt (by rw [← HQ.out]; exact hq0)]; rfl)
        go_wp2
        go_ret
        exact ⟨ret_int HE.out.symm, hb3⟩
      · have HL := Lib.hid (show lateOk f a d t (k + 1) = true from allTo_step (p := fun k => decide (0 ≤ lateAt f a d t k)) hL.out (decide_eq_true (by rw [← HQ.out]; exact hq0)))
        rcases (by omega : 60 < n ∨ n ≤ 60) with r | r
        · have HE := Lib.hid (show graceN f a d t n = -1 by unfold graceN graceOk; rw [decide_eq_false (by omega : ¬ n ≤ 60)]; rfl)
          have r2 : (60 : Int) < (n : Int) := by omega
          go_wp2
          go_ret
          exact ⟨ret_int HE.out.symm, hb3⟩
        · have r2 : ¬ (60 : Int) < (n : Int) := by omega
          have r4 : (n : Int) ≤ 60 := by omega
          rcases (by omega : graceTo f a d t k < q ∨ q ≤ graceTo f a d t k) with s | s
          · go_wp2
            go_roundw
            case rel => exact ⟨k + 1, by omega, by go_num, by rw [HS.out]; congr 1; omega, HL, fun _ => r, hb3⟩
            case measure => simp [intOf]; omega
          · go_wp2
            go_roundw
            case rel => exact ⟨k + 1, by omega, by go_num, by rw [HS.out]; congr 1; omega, HL, fun _ => r, hb3⟩
            case measure => simp [intOf]; omega
    · obtain rfl : k = n := by omega
      have k3 : ¬ (k : Int) < (k : Int) := by omega
      have h60' : k ≤ 60 := by rcases (by omega : k = 0 ∨ 0 < k) with e | e; omega; exact h60 e
      have HE := Lib.hid (show graceN f a d t k = graceTo f a d t k by unfold graceN graceOk; rw [hL.out, decide_eq_true h60']; rfl)
      clear h60
      go_wp2
      go_ret
      exact ⟨ret_int HE.out.symm, hb⟩
end Go.Proofs.Ythfhbcgnninlkaa
