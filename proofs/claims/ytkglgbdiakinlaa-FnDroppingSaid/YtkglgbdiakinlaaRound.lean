/- Contracts of RoundsOk. -/
import Derived.Test.YtkglgbdiakinlaaPut
import Derived.Test.YtkglgbdiakinlaaBools
import Derived.Test.YtkglgbdiakinlaaPlans
namespace Go.Proofs.Ytkglgbdiakinlaa
open Go.ChangeShapes Go.WideShapes Go.ChangeAt Go.RowKit
set_option maxHeartbeats 4000000 in
theorem impl_rounds (n : Int) (A : Option Addr) (l c : Nat) (z : Nat → List Int) (B : Nat) (w : World) (h : RowII w B A l c z) (hB : B ≤ w.heap.size) :
    Calls Try.prog 33 #[.int .i64 n, .slice A l c] w fun e w' => e = .returned (.bool (roundsOk n z l)) ∧ Below w.heap.size w w' := by
  have hcap := h.cap
  unfold maxLen at hcap
  rcases Bool.eq_false_or_eq_true (plansOk n z l) with hO | hO
  · have hP := plan_of hO
    have HZ := fun j (hj : j < l) => roundsTo_no (n := n) (z := z) hj
    have HQ := Lib.hid HZ
    clear HZ
    have l9 := hP.l9
    have n1 := hP.n1
    have n9 := hP.n9
    go_enter Try.func33, Try.ntmps33
    go_wp2_with fail
    refine (impl_plans n A l c z B _ h).mono ?_
    rintro e w' ⟨rfl, rfl⟩
    rw [hO]
    have HO := Lib.hid hO
    clear hO
    go_wp2_with fail
    go_loopw [6, 7, 8, 15] (fun _ _ _ i wr => ∃ r : Nat, r ≤ l ∧ i = .int .i64 r ∧ Hid (roundsTo n z r = true) ∧ Below w.heap.size w wr) (fun _ _ _ i _ => l - (intOf i).toNat)
    case atStart => exact ⟨0, by omega, rfl, Lib.hid rfl, Below.refl _ _⟩
    case round =>
      obtain ⟨r, hr, rfl, hT, hb⟩ := hrel
      have hbw := hb.size
      by_cases hlt : r < l
      · have h2 : RowII wr B A l c z := h.keep fun p hp => hb.cell (by omega)
        obtain ⟨b, off, rfl, hbB, Aj, cj, hcj, hrj⟩ := h2.at_ hlt
        have r0 : (0 : Int) ≤ (r : Int) := by omega
        have r3 : (r : Int) < (l : Int) := by omega
        have hlen := hP.len r hlt
        have hl10 : (z r).length ≤ 10 := by omega
        have HS := Lib.hid (show roundI n (z r) = (isStrict (sortTo (z r) (z r).length) 0 (n - 1) && noFix (z r) (z r).length) from rfl)
        clear hlen h2
        go_wp2_with fail
        refine (sorted_any Aj (z r).length cj (z r) B wr hrj (by omega) (by omega)).mono ?_
        rintro e w4 ⟨A4, c4, rfl, ho4, hb4⟩
        have hb5 := hb.trans (hb4.mono hbw)
        have hr4 := ho4.rowI (sortTo_wf hrj.2.2.2.1 (Nat.le_refl _))
        have hz4 := hb4.size
        have hrj4 : RowI .i64 w4 B Aj (z r).length cj (z r) := hrj.keep fun p hp => hb4.cell (by omega)
        clear hb4 ho4 hb hrj hcj
        go_wp2_with fail
        refine (strict_any A4 (z r).length c4 (sortTo (z r) (z r).length) 0 (n - 1) w4.heap.size _ hr4).mono ?_
        rintro e w6 ⟨rfl, hb6⟩
        have hb7 := hb5.trans (hb6.mono (by omega))
        have hz6 := hb6.size
        have hrj6 : RowI .i64 w6 B Aj (z r).length cj (z r) := hrj4.keep fun p hp => hb6.cell (by omega)
        clear hr4 hrj4 hb6 hb5
        rcases Bool.eq_false_or_eq_true (isStrict (sortTo (z r) (z r).length) 0 (n - 1)) with a | a
        · rw [a]
          have HS2 := Lib.hid (show roundI n (z r) = noFix (z r) (z r).length by rw [HS.out, a, Bool.true_and])
          clear a HS
          go_wp2_with fail
          go_loop [7, 8, 27] (fun _ _ i => ∃ k : Nat, k ≤ (z r).length ∧ i = .int .i64 k ∧ Hid (noFix (z r) k = true)) (fun _ _ i => (z r).length - (intOf i).toNat)
          case atStart => exact ⟨0, by omega, rfl, Lib.hid rfl⟩
          case round =>
            obtain ⟨k, hk, rfl, hN⟩ := hrel
            by_cases hkl : k < (z r).length
            · obtain ⟨bj, oj, rfl, hbj, hx⟩ := hrj6.at_ hkl
              have k0 : (0 : Int) ≤ (k : Int) := by omega
              have k3 : (k : Int) < ((z r).length : Int) := by omega
              rcases Bool.eq_false_or_eq_true ((k : Int) == nth (z r) k) with a | a
              · have HE := Lib.hid (HQ.out r hlt (by rw [HS2.out]; exact noFix_no hkl a))
                go_wp2
                go_ret
                exact ⟨ret_bool HE.out.symm, hb7⟩
              · have HN := Lib.hid (show noFix (z r) (k + 1) = true by simp only [noFix]; rw [hN.out, a]; rfl)
                go_wp2
                go_round
                case rel => exact ⟨k + 1, by omega, by go_num, HN⟩
                case measure => simp [intOf]; omega
            · have HT := Lib.hid (show roundsTo n z (r + 1) = true by have e := hN.out; rw [show k = (z r).length by omega] at e; simp only [roundsTo]; rw [hT.out, HS2.out, e]; rfl)
              have k3 : ¬ (k : Int) < ((z r).length : Int) := by omega
              go_wp2
              go_roundw
              case rel => exact ⟨r + 1, by omega, by go_num, HT, hb7⟩
              case measure => simp [intOf]; omega
        · have HE := Lib.hid (HQ.out r hlt (by rw [HS.out, a]; rfl))
          rw [a]
          clear a HS
          go_wp2
          go_ret
          exact ⟨ret_bool HE.out.symm, hb7⟩
      · have HE := Lib.hid (show roundsOk n z l = true by have e := hT.out; rw [show r = l by omega] at e; unfold roundsOk; rw [HO.out, e]; rfl)
        have r3 : ¬ (r : Int) < (l : Int) := by omega
        go_wp2
        go_ret
        exact ⟨ret_bool HE.out.symm, hb⟩
  · have HE := Lib.hid (show roundsOk n z l = false by unfold roundsOk; rw [hO]; rfl)
    go_enter Try.func33, Try.ntmps33
    go_wp2_with fail
    refine (impl_plans n A l c z B _ h).mono ?_
    rintro e w' ⟨rfl, rfl⟩
    rw [hO]
    go_wp2
    go_ret
    exact ⟨ret_bool HE.out.symm, Below.refl _ _⟩
theorem bth_seen {n : Nat} {xs : List Int} {i : Nat} (h : i < n) : bth (seenB n xs) i = xs.contains (i : Int) := by
  simp [bth, seenB, List.getD, h]
set_option maxHeartbeats 4000000 in
theorem spec_rounds (n : Int) (A : Option Addr) (l c : Nat) (z : Nat → List Int) (B : Nat) (w : World) (h : RowII w B A l c z) (hB : B ≤ w.heap.size) :
    Calls Try.prog 32 #[.int .i64 n, .slice A l c] w fun e w' => e = .returned (.bool (roundsOk n z l)) ∧ Below w.heap.size w w' := by
  have hcap := h.cap
  unfold maxLen at hcap
  rcases inB_or n 2 10 with ⟨hI, i1, i2⟩ | hI
  · rcases (by omega : 9 < l ∨ l ≤ 9) with q | q
    · have HE := Lib.hid (show roundsOk n z l = false by rw [roundsOk_s, decide_eq_false (by omega : ¬ l ≤ 9), Bool.and_false, Bool.false_and])
      have q2 : (9 : Int) < (l : Int) := by omega
      go_enter Try.func32, Try.ntmps32
      go_wp2_with (go_at_call 50; refine (l01In_any _ _ _ _).mono ?_; rintro e w' ⟨rfl, rfl⟩)
      go_ret
      exact ⟨ret_bool HE.out.symm, Below.refl _ _⟩
    · obtain ⟨i0, hi, hz0, hz1, hz2⟩ := info_parts info_bool
      obtain ⟨N, rfl⟩ : ∃ N : Nat, n = N := ⟨n.toNat, by omega⟩
      have q2 : (l : Int) ≤ 9 := by omega
      have HQ := Lib.hid (fun j (hj : j < l) => roundsS_no (n := (N : Int)) (z := z) hj)
      have HI := Lib.hid hI
      go_enter Try.func32, Try.ntmps32
      go_wp2_with (go_at_call 50; refine (l01In_any _ _ _ _).mono ?_; rintro e w' ⟨rfl, rfl⟩)
      clear hI
      go_loopw [5, 6, 7, 8] (fun i _ _ _ wr => ∃ r : Nat, r ≤ l ∧ i = .int .i64 r ∧ Hid (roundsSTo N z r = true) ∧ Below w.heap.size w wr) (fun i _ _ _ _ => l - (intOf i).toNat)
      case atStart => exact ⟨0, by omega, rfl, Lib.hid rfl, Below.refl _ _⟩
      case round =>
        obtain ⟨r, hr, rfl, hT, hb⟩ := hrel
        have hbw := hb.size
        by_cases hlt : r < l
        · have r0 : (0 : Int) ≤ (r : Int) := by omega
          have r3 : (r : Int) < (l : Int) := by omega
          have HS := Lib.hid (show roundS N (z r) = (okTo N (z r) (z r).length && (((z r).length : Int) == N)) from rfl)
          have h1 : RowII wr B A l c z := h.keep fun p hp => hb.cell (by omega)
          go_wp2_with (refine wpList_make_full _ rfl _ _ 47 rfl wr.heap.size 4 i0 (.bool false) 1 Try.underlying47 hi hz0 hz1 .i64 .i64 _ _ N rfl rfl rfl rfl (by rw [hz2]; omega) (by unfold maxLen; omega) (Nat.le_refl _) ?_; intro w1 hown hgrow)
          have hown1 := ownsB_made hown
          have hb1 : Below wr.heap.size wr w1 := (Below.refl _ _).grown hgrow (Nat.le_refl _) (fun k h => by cases h)
          have hz1' := hb1.size
          have h2 : RowII w1 B A l c z := h1.keep fun p hp => hb1.cell (by omega)
          have hb2 := hb.trans (hb1.mono hbw)
          clear hown hgrow h1 hb1 hb
          rw [← seenB_nil] at hown1
          obtain ⟨g, hg⟩ : ∃ g, g = wr.heap.size := ⟨_, rfl⟩
          rw [← hg] at hown1
          have hgw : w.heap.size ≤ g := by omega
          simp only [← hg]
          have hG := Lib.hid hg
          clear hg
          go_loopw [7, 8] (fun i _ wr => ∃ k : Nat, k ≤ (z r).length ∧ i = .int .i64 k ∧ Hid (okTo N (z r) k = true) ∧ OwnB wr g (.slice (some ⟨g, 0, none⟩) N N) (seenB N ((z r).take k)) ∧ Below w.heap.size w wr) (fun i _ _ => (z r).length - (intOf i).toNat)
          case atStart => exact ⟨0, by omega, rfl, Lib.hid rfl, hown1, hb2⟩
          case round =>
            clear hown1 hb2 h2
            obtain ⟨k, hk, rfl, hok, hown, hb⟩ := hrel
            have h2 : RowII wr B A l c z := h.keep fun p hp => hb.cell (by omega)
            obtain ⟨b, off, rfl, hbB, Aj, cj, hcj, hrj⟩ := h2.at_ hlt
            have hcj2 := hrj.cap
            unfold maxLen at hcj2
            clear h2
            by_cases hkl : k < (z r).length
            · obtain ⟨bj, oj, rfl, hbj, hx⟩ := hrj.at_ hkl
              have k0 : (0 : Int) ≤ (k : Int) := by omega
              have k3 : (k : Int) < ((z r).length : Int) := by omega
              have HO := Lib.hid (show okTo N (z r) (k + 1) = (okTo N (z r) k && (inB (nth (z r) k) 0 (N - 1) && !(nth (z r) k == (k : Int)) && !((z r).take k).contains (nth (z r) k))) from rfl)
              have HF := Lib.hid (fun (e : okTo N (z r) (k + 1) = false) => HQ.out r hlt (by rw [HS.out, okTo_no hkl e]; rfl))
              have HX := Lib.hid (take_succ_nth hkl)
              rcases inB_or (nth (z r) k) 0 (N - 1) with ⟨a, a1, a2⟩ | a
              · obtain ⟨X, hX⟩ : ∃ X : Nat, nth (z r) k = X := ⟨(nth (z r) k).toNat, by omega⟩
                rw [hX] at hx a a1 a2
                rw [hX] at HO HX
                clear hX
                have hXN : X < N := by omega
                have hq := hown.cellAt (j := X) (by rw [seenB_len]; exact hXN)
                rw [bth_seen hXN] at hq
                have hf := hown.frozenAt X
                rcases Bool.eq_false_or_eq_true ((X : Int) == (k : Int)) with d | d
                · have HE := Lib.hid (HF.out (by rw [HO.out, d, Bool.not_true, Bool.and_false, Bool.false_and, Bool.and_false]))
                  have d2 : X = k := by have := beq_iff_eq.1 d; omega
                  have d3 : (X == k) = true := by simpa using d2
                  clear d2
                  go_wp2_with (go_at_call 50; refine (l01In_any _ _ _ _).mono ?_; rintro e w' ⟨rfl, rfl⟩)
                  go_ret
                  exact ⟨ret_bool HE.out.symm, hb⟩
                · have d3 : (X == k) = false := by have := beq_eq_false_iff_ne.1 d; simp; omega
                  rcases Bool.eq_false_or_eq_true (((z r).take k).contains (X : Int)) with s | s
                  · have HE := Lib.hid (HF.out (by rw [HO.out, s, Bool.not_true, Bool.and_false, Bool.and_false]))
                    rw [s] at hq
                    clear s
                    go_wp2_with (go_at_call 50; refine (l01In_any _ _ _ _).mono ?_; rintro e w' ⟨rfl, rfl⟩)
                    go_ret
                    exact ⟨ret_bool HE.out.symm, hb⟩
                  · have HK := Lib.hid (show okTo N (z r) (k + 1) = true by rw [HO.out, hok.out, a, d, s]; rfl)
                    have hown2 := hown.stored X true
                    have e2 := seenB_set (n := N) (xs := (z r).take k) (x := (X : Int)) (by omega) (by omega)
                    rw [Int.toNat_natCast] at e2
                    rw [e2, ← HX.out] at hown2
                    have hb3 := hb.setCell (p := ⟨g, X, none⟩) hgw (.bool true)
                    rw [s] at hq
                    clear s e2 hown
                    go_wp2_with (go_at_call 50; refine (l01In_any _ _ _ _).mono ?_; rintro e w' ⟨rfl, rfl⟩)
                    go_roundw
                    case rel => exact ⟨k + 1, by omega, by go_num, HK, hown2, hb3⟩
                    case measure => simp [intOf]; omega
              · have HE := Lib.hid (HF.out (by rw [HO.out, a, Bool.false_and, Bool.false_and, Bool.and_false]))
                go_wp2_with (go_at_call 50; refine (l01In_any _ _ _ _).mono ?_; rintro e w' ⟨rfl, rfl⟩)
                go_ret
                exact ⟨ret_bool HE.out.symm, hb⟩
            · have k3 : ¬ (k : Int) < ((z r).length : Int) := by omega
              have HK := Lib.hid (show okTo N (z r) (z r).length = true by have e := hok.out; rw [show k = (z r).length by omega] at e; exact e)
              rcases Bool.eq_false_or_eq_true (((z r).length : Int) == (N : Int)) with d | d
              · have HT := Lib.hid (show roundsSTo N z (r + 1) = true by simp only [roundsSTo]; rw [hT.out, HS.out, HK.out, d]; rfl)
                have d3 : ((z r).length == N) = true := by have := beq_iff_eq.1 d; simp; omega
                have d4 : ((z r).length != N) = false := by simp [bne, d3]
                have d5 : (((z r).length : Int) != (N : Int)) = false := by simp [bne, d]
                go_wp2
                go_roundw
                case rel => exact ⟨r + 1, by omega, by go_num, HT, hb⟩
                case measure => simp [intOf]; omega
              · have HE := Lib.hid (HQ.out r hlt (by rw [HS.out, d, Bool.and_false]))
                have d3 : ((z r).length == N) = false := by have := beq_eq_false_iff_ne.1 d; simp; omega
                have d4 : ((z r).length != N) = true := by simp [bne, d3]
                have d5 : (((z r).length : Int) != (N : Int)) = true := by simp [bne, d]
                go_wp2
                go_ret
                exact ⟨ret_bool HE.out.symm, hb⟩
        · have HE := Lib.hid (show roundsOk N z l = true by have e := hT.out; rw [show r = l by omega] at e; rw [roundsOk_s, HI.out, decide_eq_true q, e]; rfl)
          have r3 : ¬ (r : Int) < (l : Int) := by omega
          go_wp2
          go_ret
          exact ⟨ret_bool HE.out.symm, hb⟩
  · have HE := Lib.hid (show roundsOk n z l = false by rw [roundsOk_s, hI]; rfl)
    go_enter Try.func32, Try.ntmps32
    go_wp2_with (go_at_call 50; refine (l01In_any _ _ _ _).mono ?_; rintro e w' ⟨rfl, rfl⟩)
    go_ret
    exact ⟨ret_bool HE.out.symm, Below.refl _ _⟩
end Go.Proofs.Ytkglgbdiakinlaa
