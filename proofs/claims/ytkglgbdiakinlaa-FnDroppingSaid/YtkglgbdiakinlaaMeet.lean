/- Contracts of MeetingPlan: the program's and the reference's. -/
import Derived.Test.YtkglgbdiakinlaaMeetS
import Derived.Outline
namespace Go.Proofs.Ytkglgbdiakinlaa
open Go.ChangeShapes Go.WideShapes Go.ChangeAt Go.RowKit
set_option maxHeartbeats 4000000 in
theorem impl_meet (n : Int) (w : World) :
    Calls Try.prog 22 #[.int .i64 n] w fun e w' => ∃ A2 c2, e = .returned (.slice A2 (meetN n) c2) ∧ OwnII w' w.heap.size w'.heap.size (.slice A2 (meetN n) c2) (meetN n) (fun j => meetRow n.toNat j) ∧ Below w.heap.size w w' := by
  rcases inB_or n 2 10 with ⟨hI, i1, i2⟩ | hI
  rotate_left
  · rw [meetN_no hI]
    go_enter Try.func22, Try.ntmps22
    go_wp2_with (go_at_call 51; refine (within_any _ _ _ _).mono ?_; rintro e w' ⟨rfl, rfl⟩)
    go_ret
    exact ⟨none, 0, rfl, ownII_nil _ _ _ _, Below.refl _ _⟩
  rcases (by omega : n % 2 = 1 ∨ n % 2 = 0) with hO | hO
  · rw [meetN_odd hO]
    have hT : Int.tmod n 2 = 1 := by rw [Int.tmod_eq_emod_of_nonneg (by omega)]; exact hO
    have o1 : (n % 2 == 1) = true := beq_iff_eq.2 hO
    have o2 : (Int.tmod n 2 == 1) = true := beq_iff_eq.2 hT
    clear hO hT
    go_enter Try.func22, Try.ntmps22
    go_wp2_with (go_at_call 51; refine (within_any _ _ _ _).mono ?_; rintro e w' ⟨rfl, rfl⟩)
    go_ret
    exact ⟨none, 0, rfl, ownII_nil _ _ _ _, Below.refl _ _⟩
  · obtain ⟨m, rfl⟩ := Int.eq_ofNat_of_zero_le (show 0 ≤ n by omega)
    have hT : Int.tmod (m : Int) 2 = 0 := by rw [Int.tmod_eq_emod_of_nonneg (by omega)]; exact hO
    have o1 : ((m : Int) % 2 == 1) = false := by rw [hO]; rfl
    have o2 : (Int.tmod (m : Int) 2 == 1) = false := by rw [hT]; rfl
    rw [Int.toNat_natCast, meetN_of (by omega) (by omega) (by omega)]
    have hO2 : m % 2 = 0 := by omega
    have HO := Lib.hid hO2
    obtain ⟨M, hM⟩ : ∃ M, M = m - 1 := ⟨_, rfl⟩
    rw [← hM]
    have HM := Lib.hid hM
    clear hM hT hO hO2
    have m1 : 2 ≤ m := by omega
    have m2 : m ≤ 10 := by omega
    obtain ⟨i0, hi, hz0, hz1, hz2⟩ := info_parts info_int
    go_enter Try.func22, Try.ntmps22
    go_wp2_with (go_at_call 51; refine (within_any _ _ _ _).mono ?_; rintro e w' ⟨rfl, rfl⟩)
    go_loopw [3, 4, 5, 6, 7, 19, 26] (fun v _ _ _ _ r _ wr => ∃ j : Nat, j + 1 ≤ m ∧ r = .int .i64 (j : Int) ∧ OwnII wr w.heap.size wr.heap.size v j (fun j => meetRow m j) ∧ Below w.heap.size w wr) (fun _ _ _ _ _ r _ _ => m - (intOf r).toNat)
    case atStart => exact ⟨0, by omega, rfl, (ownII_empty w _).more (by simp), (Below.refl _ _).alloc (Nat.le_refl _) _⟩
    case round =>
      obtain ⟨j, hj, rfl, hown, hb⟩ := hrel
      by_cases hlt : j + 1 < m
      · have d1 : decide ((j : Int) < (m : Int) - 1) = true := decide_eq_true (by omega)
        have HP := Lib.hid (fun k (h : k + 1 < m) => ways_of m1 m2 HO.out hlt h)
        have hbw := hb.size
        go_wp2_with (refine wpList_make_full _ rfl _ _ 27 rfl wr.heap.size 3 i0 (.int .i64 0) 1 Try.underlying27 hi hz0 hz1 .i64 .i64 _ _ m rfl rfl rfl rfl (by rw [hz2]; omega) (by unfold maxLen; omega) (Nat.le_refl _) ?_; intro w1 hown0 hgrow)
        have ho1 := owns_zero (meetRow m j) (meetRow_len m j) hown0
        have hb1 : Below wr.heap.size wr w1 := (Below.refl _ _).grown hgrow (Nat.le_refl _) (fun k h => by cases h)
        clear hown0 hgrow
        obtain ⟨wo, rfl⟩ : ∃ wo : World, wo = wr := ⟨_, rfl⟩
        go_loopw [6, 7, 26] (fun _ _ i wr => ∃ k : Nat, k + 1 ≤ m ∧ i = .int .i64 k ∧ OwnI wr wo.heap.size (.slice (some ⟨wo.heap.size, 0, none⟩) m m) (filled (meetRow m j) k) ∧ Below wo.heap.size wo wr) (fun _ _ i _ => m - (intOf i).toNat)
        case atStart => exact ⟨0, by omega, rfl, ho1, hb1⟩
        case round =>
          clear ho1 hb1
          obtain ⟨k, hk, rfl, hrow, hb2⟩ := hrel
          have hg := hrow.ge
          have hf := hrow.frozenAt k
          have hfl := filled_len (meetRow m j) (k := k) (by rw [meetRow_len]; omega)
          rw [meetRow_len] at hfl
          have hcl := hrow.cellAt (j := k) (by rw [hfl]; omega)
          have hst := fun x => hrow.stored k x
          have hse := filled_set (zs := meetRow m j) (k := k) (by rw [meetRow_len]; omega)
          rw [nth_meetRow (m := m) (j := j) (by omega)] at hse
          have HSE := Lib.hid hse
          have HFL := Lib.hid hfl
          clear hfl hse
          by_cases hkl : k + 1 < m
          · have d2 : decide ((k : Int) < (m : Int) - 1) = true := decide_eq_true (by omega)
            have hmm : ((m : Int) - 1 == 0) = false := beq_eq_false_iff_ne.2 (by omega)
            obtain ⟨p1, p2, p3, p4, p5⟩ := HP.out k hkl
            rcases (by omega : k = j ∨ k ≠ j) with q | q
            · have HQ := Lib.hid (meet_self hkl q)
              have e3 := p1 q
              unfold ways at e3
              have e4 : (((2 * (j : Int) - k).tmod ((m : Int) - 1) + m - 1) % ((m : Int) - 1) == (k : Int)) = true := beq_iff_eq.2 e3
              clear p1 p2 e3 q
              have ho2 := hst (meetTo m j k)
              rw [HSE.out] at ho2
              have hb3 := hb2.setCell (p := ⟨wo.heap.size, k, none⟩) hg.1 (.int .i64 (meetTo m j k))
              rw [HQ.out] at ho2 hb3
              clear hrow hb2 hst
              go_wp2
              go_roundw
              case rel => exact ⟨k + 1, by omega, by go_num, ho2, hb3⟩
              case measure => simp [intOf]; omega
            · obtain ⟨e3, e5⟩ := p2 q
              have HQ := Lib.hid ((meet_other hkl q).trans e5.symm)
              unfold ways at e3 HQ
              have e4 : (((2 * (j : Int) - k).tmod ((m : Int) - 1) + m - 1) % ((m : Int) - 1) == (k : Int)) = false := beq_eq_false_iff_ne.2 e3
              clear p1 p2 e3 e5 q
              have ho2 := hst (meetTo m j k)
              rw [HSE.out] at ho2
              have hb3 := hb2.setCell (p := ⟨wo.heap.size, k, none⟩) hg.1 (.int .i64 (meetTo m j k))
              rw [HQ.out] at ho2 hb3
              clear hrow hb2 hst
              go_wp2
              go_roundw
              case rel => exact ⟨k + 1, by omega, by go_num, ho2, hb3⟩
              case measure => simp [intOf]; omega
          · have d2 : decide ((k : Int) < (m : Int) - 1) = false := decide_eq_false (by omega)
            have HQ := Lib.hid (meet_last (m := m) (j := j) (k := k) (by omega))
            have ho2 := hst (meetTo m j k)
            rw [HSE.out] at ho2
            have hfa : filled (meetRow m j) (k + 1) = meetRow m j := by
              have := filled_all (meetRow m j)
              rw [meetRow_len] at this
              rw [show k + 1 = m by omega]
              exact this
            rw [hfa] at ho2
            clear hfa
            have hb3 := hb2.setCell (p := ⟨wo.heap.size, k, none⟩) hg.1 (.int .i64 (meetTo m j k))
            rw [HQ.out] at ho2 hb3
            have hown2 := hown.keep hb3
            clear hrow hb2 hst HP hown HSE HQ
            have hsz := hb3.size
            have m0 : (0 : Int) ≤ (m : Int) - 1 := by omega
            have m9 : (m : Int) - 1 < (m : Int) := by omega
            have hK : k = m - 1 := by omega
            rw [hK] at ho2 hb3 hown2 hf hcl hsz
            clear hK
            go_wp2_with (at_builtin; (refine appII_plain rfl _ _ rfl w.heap.size wo.heap.size j _ _ (fun j => meetRow m j) _ rfl (ownII_alloc hown2 _) (ho2.alloc _) hbw rfl (by have := heap_alloc_new (wr.setCell ⟨wo.heap.size, m - 1, none⟩ (.int .i64 (j : Int))) (.cells #[.slice (some ⟨wo.heap.size, 0, none⟩) m m] 27); simpa using this) (by omega) (by simp; omega) ?_); intro v4 w4 ho4 hb4)
            have hb5 := ((hb.trans (hb3.mono hbw)).alloc (by omega) _).trans hb4
            clear hb4 ho2 hb3 hown2
            go_wp2
            go_roundw
            case rel => exact ⟨j + 1, by omega, by go_num, ho4, hb5⟩
            case measure => simp [intOf]; omega
      · obtain rfl : j = M := by have := HM.out; omega
        obtain ⟨A2, c2, hv⟩ := hown.shape
        have HV := Lib.hid hv
        clear hv
        have d1 : decide ((j : Int) < (m : Int) - 1) = false := decide_eq_false (by have := HM.out; omega)
        go_wp2
        go_ret
        rw [HV.out] at hown
        exact ⟨A2, c2, by rw [HV.out]; rfl, hown, hb⟩
end Go.Proofs.Ytkglgbdiakinlaa
