/- Contracts of RepeatedPairs. -/
import Derived.Test.YtkglgbdiakinlaaSends
import Derived.Test.YtkglgbdiakinlaaPureR
namespace Go.Proofs.Ytkglgbdiakinlaa
open Go.ChangeShapes Go.WideShapes Go.ChangeAt Go.RowKit
theorem RowII.cut {w : World} {B n c r : Nat} {A : Option Addr} {z : Nat → List Int} (h : RowII w B A n c z) (hr : r ≤ n) : RowII w B A r c z :=
  ⟨Nat.le_trans hr h.1, h.2.1, fun h0 => by
    obtain ⟨b, off, e, hb, hx⟩ := h.2.2 (by omega)
    exact ⟨b, off, e, hb, fun i hi => hx i (by omega)⟩⟩
set_option maxHeartbeats 4000000 in
theorem impl_repeated (n : Int) (A : Option Addr) (l c : Nat) (z : Nat → List Int) (B : Nat) (w : World) (h : RowII w B A l c z) :
    Calls Try.prog 31 #[.int .i64 n, .slice A l c] w fun e w' => e = .returned (.int .i64 (repeated n z l)) ∧ w = w' := by
  have hcap := h.cap
  unfold maxLen at hcap
  rcases Bool.eq_false_or_eq_true (plansOk n z l) with hO | hO
  · have hP := plan_of hO
    have HE := Lib.hid (show repeated n z l = repTo z l by unfold repeated; rw [if_pos hO])
    have l9 := hP.l9
    go_enter Try.func31, Try.ntmps31
    go_wp2_with fail
    refine (impl_plans n A l c z B _ h).mono ?_
    rintro e w' ⟨rfl, rfl⟩
    rw [hO]
    have HO := Lib.hid hO
    clear hO
    go_wp2_with fail
    go_loop [5, 6, 7, 8, 9, 16] (fun v _ _ _ _ i => ∃ r : Nat, r ≤ l ∧ i = .int .i64 r ∧ v = .int .i64 (repTo z r)) (fun _ _ _ _ _ i => l - (intOf i).toNat)
    case atStart => exact ⟨0, by omega, rfl, rfl⟩
    case round =>
      obtain ⟨r, hr, rfl, rfl⟩ := hrel
      have hbd := repTo_bd hP r hr
      by_cases hlt : r < l
      · obtain ⟨b, off, rfl, hbB, Aj, cj, hcj, hrj⟩ := h.at_ hlt
        have HS := Lib.hid (show repTo z (r + 1) = repTo z r + repIn z r (z r).length from rfl)
        have r0 : (0 : Int) ≤ (r : Int) := by omega
        have r3 : (r : Int) < (l : Int) := by omega
        go_wp2_with fail
        go_loop [5, 8, 9, 23] (fun v _ _ i => ∃ k : Nat, k ≤ (z r).length ∧ i = .int .i64 k ∧ v = .int .i64 (repTo z r + repIn z r k)) (fun _ _ _ i => (z r).length - (intOf i).toNat)
        case atStart => exact ⟨0, by omega, rfl, by simp [repIn]⟩
        case round =>
          obtain ⟨k, hk, rfl, rfl⟩ := hrel
          have hib := repIn_bd z r k
          have hlen := hP.len r hlt
          have hn9 := hP.n9
          by_cases hkl : k < (z r).length
          · obtain ⟨bj, oj, rfl, hbj, hx⟩ := hrj.at_ hkl
            have k0 : (0 : Int) ≤ (k : Int) := by omega
            have k3 : (k : Int) < ((z r).length : Int) := by omega
            have HS2 := Lib.hid (show repIn z r (k + 1) = repIn z r k + (if again z r k = true then 1 else 0) from rfl)
            have HG := Lib.hid (show again z r k = (!((k : Int) == nth (z r) k) && sent z k (nth (z r) k) r) from rfl)
            have hl10 : ((z r).length : Int) ≤ 10 := by omega
            clear hlen
            rcases Bool.eq_false_or_eq_true ((k : Int) == nth (z r) k) with a | a
            · have e2 : ((k : Int) != nth (z r) k) = false := by simp [bne, a]
              have e4 : (¬ ((k : Int) = nth (z r) k)) = False := by simp [beq_iff_eq.1 a]
              have HF := Lib.hid (show again z r k = false by rw [HG.out, a]; rfl)
              rw [if_neg (by rw [HF.out]; simp), Int.add_zero] at HS2
              go_wp2
              go_round
              case rel => exact ⟨k + 1, by omega, by go_num, by rw [HS2.out]⟩
              case measure => simp [intOf]; omega
            · have e2 : ((k : Int) != nth (z r) k) = true := by simp [bne, a]
              have e3 := beq_eq_false_iff_ne.1 a
              rcases Bool.eq_false_or_eq_true (sent z k (nth (z r) k) r) with s | s
              · have HF := Lib.hid (show again z r k = true by rw [HG.out, a, s]; rfl)
                rw [if_pos HF.out] at HS2
                go_wp2_with (go_at_call 57; refine (impl_sends _ r c z k (nth (z r) k) B _ (h.cut hr) (fun j hj => by have := hP.len j (by omega); have := hP.len r hlt; omega)).mono ?_; rintro e w' ⟨rfl, rfl⟩)
                go_round
                case rel => exact ⟨k + 1, by omega, by go_num, by rw [HS2.out]; congr 1; omega⟩
                case measure => simp [intOf]; omega
              · have HF := Lib.hid (show again z r k = false by rw [HG.out, a, s]; rfl)
                rw [if_neg (by rw [HF.out]; simp), Int.add_zero] at HS2
                go_wp2_with (go_at_call 57; refine (impl_sends _ r c z k (nth (z r) k) B _ (h.cut hr) (fun j hj => by have := hP.len j (by omega); have := hP.len r hlt; omega)).mono ?_; rintro e w' ⟨rfl, rfl⟩)
                go_round
                case rel => exact ⟨k + 1, by omega, by go_num, by rw [HS2.out]⟩
                case measure => simp [intOf]; omega
          · have hke : k = (z r).length := by omega
            have d1 : ¬ (k : Int) < ((z r).length : Int) := by omega
            have HT := Lib.hid (show repTo z (r + 1) = repTo z r + repIn z r k by rw [hke]; rfl)
            clear hke hlen
            go_wp2
            go_round
            case rel => exact ⟨r + 1, by omega, by go_num, by rw [HT.out]⟩
            case measure => simp [intOf]; omega
      · obtain rfl : r = l := by omega
        go_wp2
        go_ret
        exact ⟨ret_int HE.out.symm, rfl⟩
  · have HE := Lib.hid (show repeated n z l = -1 by unfold repeated; rw [hO]; rfl)
    go_enter Try.func31, Try.ntmps31
    go_wp2_with fail
    refine (impl_plans n A l c z B _ h).mono ?_
    rintro e w' ⟨rfl, rfl⟩
    rw [hO]
    go_wp2
    go_ret
    exact ⟨ret_int HE.out.symm, rfl⟩
end Go.Proofs.Ytkglgbdiakinlaa
