/- Contracts of IsFair. -/
import Derived.Test.YtkglgbdiakinlaaRound
import Derived.Test.YtkglgbdiakinlaaRepS
namespace Go.Proofs.Ytkglgbdiakinlaa
open Go.ChangeShapes Go.WideShapes Go.ChangeAt Go.RowKit
set_option maxHeartbeats 4000000 in
theorem impl_fair (n : Int) (A : Option Addr) (l c : Nat) (z : Nat → List Int) (B : Nat) (w : World) (h : RowII w B A l c z) (hB : B ≤ w.heap.size) :
    Calls Try.prog 41 #[.int .i64 n, .slice A l c] w fun e w' => e = .returned (.bool (fairOk n z l)) ∧ Below w.heap.size w w' := by
  have hcap := h.cap
  unfold maxLen at hcap
  have HF := Lib.hid (fair_eq n z l)
  rcases Bool.eq_false_or_eq_true (roundsOk n z l) with hO | hO
  · have hP := rounds_of hO
    have n1 := hP.n1
    have n9 := hP.n9
    rcases Bool.eq_false_or_eq_true ((l : Int) == n - 1) with hl | hl
    · rcases Bool.eq_false_or_eq_true (repeated n z l == 0) with hq | hq
      all_goals
        have HE := Lib.hid (show fairOk n z l = (repeated n z l == 0) by rw [HF.out, hO, hl]; rfl)
        rw [hq] at HE
        go_enter Try.func41, Try.ntmps41
        go_wp2_with fail
        refine (impl_rounds n A l c z B _ h hB).mono ?_
        rintro e w1 ⟨rfl, hb1⟩
        rw [hO]
        have h2 : RowII w1 B A l c z := h.keep fun p hp => hb1.cell (by omega)
        clear hO h
        go_wp2_with fail
        refine (impl_repeated n A l c z B _ h2).mono ?_
        rintro e w2 ⟨rfl, rfl⟩
        go_wp2
        go_ret
        exact ⟨ret_bool HE.out.symm, hb1⟩
    · have HE := Lib.hid (show fairOk n z l = false by rw [HF.out, hl, Bool.and_false, Bool.false_and])
      go_enter Try.func41, Try.ntmps41
      go_wp2_with fail
      refine (impl_rounds n A l c z B _ h hB).mono ?_
      rintro e w1 ⟨rfl, hb1⟩
      rw [hO]
      clear hO
      go_wp2
      go_ret
      exact ⟨ret_bool HE.out.symm, hb1⟩
  · have HE := Lib.hid (show fairOk n z l = false by unfold fairOk; rw [hO]; rfl)
    go_enter Try.func41, Try.ntmps41
    go_wp2_with fail
    refine (impl_rounds n A l c z B _ h hB).mono ?_
    rintro e w1 ⟨rfl, hb1⟩
    rw [hO]
    go_wp2
    go_ret
    exact ⟨ret_bool HE.out.symm, hb1⟩
set_option maxHeartbeats 4000000 in
theorem spec_fair (n : Int) (A : Option Addr) (l c : Nat) (z : Nat → List Int) (B : Nat) (w : World) (h : RowII w B A l c z) (hB : B ≤ w.heap.size) :
    Calls Try.prog 40 #[.int .i64 n, .slice A l c] w fun e w' => e = .returned (.bool (fairOk n z l)) ∧ Below w.heap.size w w' := by
  have hcap := h.cap
  unfold maxLen at hcap
  rcases Bool.eq_false_or_eq_true (roundsOk n z l) with hO | hO
  · have hP := rounds_of hO
    have l9 := hP.l9
    have n1 := hP.n1
    have n9 := hP.n9
    obtain ⟨N, rfl⟩ : ∃ N : Nat, n = N := ⟨n.toNat, by omega⟩
    rcases Bool.eq_false_or_eq_true ((l : Int) == (N : Int) - 1) with hl | hl
    · have HQ := Lib.hid (fun r s k (hr : r < l) (hs : s < r) (hk : k < N) => fair_no (z := z) hr hs hk)
      have l1 : ((l : Int) != (N : Int) - 1) = false := by simp [bne, hl]
      go_enter Try.func40, Try.ntmps40
      go_wp2_with fail
      refine (spec_rounds N A l c z B _ h hB).mono ?_
      rintro e w1 ⟨rfl, hb1⟩
      rw [hO]
      have HO := Lib.hid hO
      clear hO
      have h2 : RowII w1 B A l c z := h.keep fun p hp => hb1.cell (by omega)
      clear h
      go_wp2_with fail
      have HL1 := Lib.hid hl
      clear hl l1
      go_loopw [5, 6, 7] (fun i _ _ wr => ∃ r : Nat, r ≤ l ∧ i = .int .i64 r ∧ Hid (apart0 N z r = true) ∧ Below w.heap.size w wr ∧ RowII wr B A l c z) (fun i _ _ _ => l - (intOf i).toNat)
      case atStart => exact ⟨0, by omega, rfl, Lib.hid rfl, hb1, h2⟩
      case round =>
        clear hb1 h2
        obtain ⟨r, hr, rfl, hT, hb1, h2⟩ := hrel
        by_cases hlt : r < l
        · have r0 : (0 : Int) ≤ (r : Int) := by omega
          have r3 : (r : Int) < (l : Int) := by omega
          have hlen := hP.len r hlt
          have hlr : (z r).length = N := by omega
          have HL := Lib.hid hlr
          clear hlen hlr
          go_wp2_with fail
          obtain ⟨wo, rfl⟩ : ∃ wo : World, wo = wr := ⟨_, rfl⟩
          go_loopw [6, 7] (fun i _ wr => ∃ s : Nat, s ≤ r ∧ i = .int .i64 s ∧ Hid (allTo (apart2 N z r) s = true) ∧ Below w.heap.size w wr ∧ RowII wr B A l c z) (fun i _ _ => r - (intOf i).toNat)
          case atStart => exact ⟨0, by omega, rfl, Lib.hid rfl, hb1, h2⟩
          case round =>
            clear hb1 h2
            obtain ⟨s, hs, rfl, hS, hb1, h2⟩ := hrel
            by_cases hsl : s < r
            · have s0 : (0 : Int) ≤ (s : Int) := by omega
              have s3 : (s : Int) < (r : Int) := by omega
              have s4 : (s : Int) < (l : Int) := by omega
              have hlen2 := hP.len s (by omega)
              have hls : (z s).length = N := by omega
              have HL2 := Lib.hid hls
              clear hlen2 hls
              go_wp2_with fail
              obtain ⟨wo2, rfl⟩ : ∃ wo2 : World, wo2 = wr := ⟨_, rfl⟩
              go_loopw [7] (fun i wr => ∃ k : Nat, k ≤ N ∧ i = .int .i64 k ∧ Hid (allTo (apartAt z r s) k = true) ∧ Below w.heap.size w wr ∧ RowII wr B A l c z) (fun i _ => N - (intOf i).toNat)
              case atStart => exact ⟨0, by omega, rfl, Lib.hid rfl, hb1, h2⟩
              case round =>
                clear hb1 h2
                obtain ⟨k, hk, rfl, hN, hb1, h2⟩ := hrel
                by_cases hkl : k < N
                · obtain ⟨b, off, rfl, hbB, hrows⟩ := h2.2.2 (by omega)
                  obtain ⟨Aj, cj, hcj, hrj⟩ := hrows r hlt
                  obtain ⟨As, cs, hcs, hrs⟩ := hrows s (by omega)
                  clear hrows
                  rw [HL.out] at hcj hrj
                  rw [HL2.out] at hcs hrs
                  obtain ⟨bj, oj, rfl, hbj, hx⟩ := hrj.at_ hkl
                  obtain ⟨bs, os, rfl, hbs, hy⟩ := hrs.at_ hkl
                  have k0 : (0 : Int) ≤ (k : Int) := by omega
                  have k3 : (k : Int) < (N : Int) := by omega
                  have HD := Lib.hid (show apartAt z r s k = !(nth (z r) k == nth (z s) k) from rfl)
                  rcases Bool.eq_false_or_eq_true (nth (z r) k == nth (z s) k) with a | a
                  · have HE := Lib.hid (HQ.out r s k hlt hsl hkl (by rw [HD.out, a]; rfl))
                    go_wp2_with fail
                    go_quiet (fail)
                    go_wp2
                    go_ret
                    exact ⟨ret_bool HE.out.symm, ⟨hb1.os, hb1.tape, hb1.output, hb1.size, hb1.block⟩⟩
                  · have HN := Lib.hid (allTo_step hN.out (show apartAt z r s k = true by rw [HD.out, a]; rfl))
                    go_wp2_with fail
                    go_quiet (fail)
                    go_wp2
                    go_roundw
                    case rel => exact ⟨k + 1, by omega, by go_num, HN, ⟨hb1.os, hb1.tape, hb1.output, hb1.size, hb1.block⟩, h2⟩
                    case measure => simp [intOf]; omega
                · have HT := Lib.hid (show allTo (apart2 N z r) (s + 1) = true from allTo_step hS.out (by have e := hN.out; rw [show k = N by omega] at e; exact e))
                  have k3 : ¬ (k : Int) < (N : Int) := by omega
                  go_wp2
                  go_roundw
                  case rel => exact ⟨s + 1, by omega, by go_num, HT, hb1, h2⟩
                  case measure => simp [intOf]; omega
            · have HT := Lib.hid (show apart0 N z (r + 1) = true from allTo_step (p := apart1 N z) hT.out (by have e := hS.out; rw [show s = r by omega] at e; exact e))
              have s3 : ¬ (s : Int) < (r : Int) := by omega
              go_wp2
              go_roundw
              case rel => exact ⟨r + 1, by omega, by go_num, HT, hb1, h2⟩
              case measure => simp [intOf]; omega
        · have HE := Lib.hid (show fairOk N z l = true by have e := hT.out; rw [show r = l by omega] at e; unfold fairOk; rw [Int.toNat_natCast, HO.out, HL1.out, e]; rfl)
          have r3 : ¬ (r : Int) < (l : Int) := by omega
          go_wp2
          go_ret
          exact ⟨ret_bool HE.out.symm, hb1⟩
    · have HE := Lib.hid (show fairOk N z l = false by unfold fairOk; rw [hl, Bool.and_false, Bool.false_and])
      have l1 : ((l : Int) != (N : Int) - 1) = true := by simp [bne, hl]
      go_enter Try.func40, Try.ntmps40
      go_wp2_with fail
      refine (spec_rounds N A l c z B _ h hB).mono ?_
      rintro e w1 ⟨rfl, hb1⟩
      rw [hO]
      clear hO
      go_wp2
      go_ret
      exact ⟨ret_bool HE.out.symm, hb1⟩
  · have HE := Lib.hid (show fairOk n z l = false by unfold fairOk; rw [hO]; rfl)
    go_enter Try.func40, Try.ntmps40
    go_wp2_with fail
    refine (spec_rounds n A l c z B _ h hB).mono ?_
    rintro e w1 ⟨rfl, hb1⟩
    rw [hO]
    go_wp2
    go_ret
    exact ⟨ret_bool HE.out.symm, hb1⟩
end Go.Proofs.Ytkglgbdiakinlaa
