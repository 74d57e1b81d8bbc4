/- The reference's contract of RepeatedPairs. -/
import Derived.Test.YtkglgbdiakinlaaRep
namespace Go.Proofs.Ytkglgbdiakinlaa
open Go.ChangeShapes Go.WideShapes Go.ChangeAt Go.RowKit
theorem spec_sent0 (A : Option Addr) (l c : Nat) (z : Nat → List Int) (i : Nat) (x : Int) (d : Nat) (B : Nat) (w : World) (h : RowII w B A l c z) (hd : d ≤ l) (hi : ∀ j, j < l → i < (z j).length) :
    Calls Try.prog 55 #[.slice A l c, .int .i64 i, .int .i64 x, .int .i64 0, .int .i64 d] w fun e w' => e = .returned (.int .i64 (sentN z i x 0 d)) ∧ w = w' := by
  have := spec_sent A l c z i x 0 d B w h (by omega) hi
  simpa using this
set_option maxHeartbeats 4000000 in
theorem spec_repeated (n : Int) (A : Option Addr) (l c : Nat) (z : Nat → List Int) (B : Nat) (w : World) (h : RowII w B A l c z) :
    Calls Try.prog 30 #[.int .i64 n, .slice A l c] w fun e w' => e = .returned (.int .i64 (repeated n z l)) ∧ w = w' := by
  have hcap := h.cap
  unfold maxLen at hcap
  rcases Bool.eq_false_or_eq_true (plansOk n z l) with hO | hO
  · have hP := plan_of hO
    have HE := Lib.hid (show repeated n z l = repTo z l by unfold repeated; rw [if_pos hO])
    have l9 := hP.l9
    go_enter Try.func30, Try.ntmps30
    go_wp2_with fail
    refine (spec_plans n A l c z B _ h).mono ?_
    rintro e w' ⟨rfl, rfl⟩
    rw [hO]
    have HO := Lib.hid hO
    clear hO
    go_wp2_with fail
    go_loop [5, 6, 7] (fun v i _ => ∃ r : Nat, r ≤ l ∧ i = .int .i64 r ∧ v = .int .i64 (repTo z r)) (fun _ i _ => l - (intOf i).toNat)
    case atStart => exact ⟨0, by omega, rfl, rfl⟩
    case round =>
      obtain ⟨r, hr, rfl, rfl⟩ := hrel
      have hbd := repTo_bd hP r hr
      by_cases hlt : r < l
      · obtain ⟨b, off, rfl, hbB, Aj, cj, hcj, hrj⟩ := h.at_ hlt
        have HS := Lib.hid (show repTo z (r + 1) = repTo z r + repIn z r (z r).length from rfl)
        have r0 : (0 : Int) ≤ (r : Int) := by omega
        have r3 : (r : Int) < (l : Int) := by omega
        go_wp2_with fail
        go_loop [5, 7] (fun v i => ∃ k : Nat, k ≤ (z r).length ∧ i = .int .i64 k ∧ v = .int .i64 (repTo z r + repIn z r k)) (fun _ i => (z r).length - (intOf i).toNat)
        case atStart => exact ⟨0, by omega, rfl, by simp [repIn]⟩
        case round =>
          obtain ⟨k, hk, rfl, rfl⟩ := hrel
          have hib := repIn_bd z r k
          have hlen := hP.len r hlt
          have hn9 := hP.n9
          by_cases hkl : k < (z r).length
          · obtain ⟨bj, oj, rfl, hbj, hx⟩ := hrj.at_ hkl
            have k0 : (0 : Int) ≤ (k : Int) := by omega
            have kn : (k : Int) < n := by omega
            have k3 : (k : Int) < ((z r).length : Int) := by omega
            have HS2 := Lib.hid (show repIn z r (k + 1) = repIn z r k + (if again z r k = true then 1 else 0) from rfl)
            have HG := Lib.hid (show again z r k = (!((k : Int) == nth (z r) k) && sent z k (nth (z r) k) r) from rfl)
            have hl10 : ((z r).length : Int) ≤ 10 := by omega
            clear hlen
            rcases Bool.eq_false_or_eq_true ((k : Int) == nth (z r) k) with a | a
            · have e2 : ((k : Int) != nth (z r) k) = false := by simp [bne, a]
              have e4 : (¬ (nth (z r) k = (k : Int))) = False := by simp [← beq_iff_eq.1 a]
              have e5 : (nth (z r) k == (k : Int)) = true := beq_iff_eq.2 (beq_iff_eq.1 a).symm
              have e6 : decide (nth (z r) k = (k : Int)) = true := decide_eq_true (beq_iff_eq.1 a).symm
              have HF := Lib.hid (show again z r k = false by rw [HG.out, a]; rfl)
              rw [if_neg (by rw [HF.out]; simp), Int.add_zero] at HS2
              go_wp2
              go_round
              case rel => exact ⟨k + 1, by omega, by go_num, by rw [HS2.out]⟩
              case measure => simp [intOf]; omega
            · have e2 : ((k : Int) != nth (z r) k) = true := by simp [bne, a]
              have e3 := Ne.symm (beq_eq_false_iff_ne.1 a)
              have e5 := sentN_pos z k (nth (z r) k) r
              rcases Bool.eq_false_or_eq_true (sent z k (nth (z r) k) r) with s | s
              · rw [s] at e5
                have e6 := of_decide_eq_true e5
                have HF := Lib.hid (show again z r k = true by rw [HG.out, a, s]; rfl)
                rw [if_pos HF.out] at HS2
                go_wp2_with (go_at_call 55; refine (spec_sent0 _ l c z k (nth (z r) k) r B _ h (by omega) (fun j hj => by have := hP.len j (by omega); have := hP.len r hlt; omega)).mono ?_; rintro e w' ⟨rfl, rfl⟩)
                go_round
                case rel => exact ⟨k + 1, by omega, by go_num, by rw [HS2.out]; congr 1; omega⟩
                case measure => simp [intOf]; omega
              · rw [s] at e5
                have e6 := of_decide_eq_false e5
                have HF := Lib.hid (show again z r k = false by rw [HG.out, a, s]; rfl)
                rw [if_neg (by rw [HF.out]; simp), Int.add_zero] at HS2
                go_wp2_with (go_at_call 55; refine (spec_sent0 _ l c z k (nth (z r) k) r B _ h (by omega) (fun j hj => by have := hP.len j (by omega); have := hP.len r hlt; omega)).mono ?_; rintro e w' ⟨rfl, rfl⟩)
                go_round
                case rel => exact ⟨k + 1, by omega, by go_num, by rw [HS2.out]⟩
                case measure => simp [intOf]; omega
          · have hke : k = (z r).length := by omega
            have d1 : n ≤ (k : Int) := by omega
            have HT := Lib.hid (show repTo z (r + 1) = repTo z r + repIn z r k by rw [hke]; rfl)
            clear hke hlen
            go_wp2
            go_round
            case rel => exact ⟨r + 1, by omega, by go_num, by rw [HT.out]⟩
            case measure => simp [intOf]; omega
      · obtain rfl : r = l := by omega
        go_wp2
        go_ret
        exact ⟨ret_int HE.out.symm, rfl⟩
  · have HE := Lib.hid (show repeated n z l = -1 by unfold repeated; rw [hO]; rfl)
    go_enter Try.func30, Try.ntmps30
    go_wp2_with fail
    refine (spec_plans n A l c z B _ h).mono ?_
    rintro e w' ⟨rfl, rfl⟩
    rw [hO]
    go_wp2
    go_ret
    exact ⟨ret_int HE.out.symm, rfl⟩
end Go.Proofs.Ytkglgbdiakinlaa
