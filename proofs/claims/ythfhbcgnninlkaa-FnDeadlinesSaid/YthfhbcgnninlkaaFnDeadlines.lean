/-
  The law FnDeadlines: for every input the Go function returns true, and each argument reads afterwards as it read before.
  Conditions: none beyond the row's own.
-/
import Derived.Test.YthfhbcgnninlkaaDead
import Derived.Test.YthfhbcgnninlkaaCode
import Derived.Test.YthfhbcgnninlkaaLateM
import Derived.Test.YthfhbcgnninlkaaBtoi
import Derived.ChangeOld
import Derived.Carry
namespace Go.Proofs.Ythfhbcgnninlkaa.fnDeadlines
open Go.ChangeShapes Go.WideShapes Go.ChangeAt Go.RowKit Go.Joins
open Go.ChangeMaps (open_string shut_string)
set_option linter.unusedVariables false

theorem own : ownKnob Try.prog.godebug = none := by kernel_rfl
theorem laidOut : laidOutB Try.prog = true := by kernel_rfl

set_option maxRecDepth 100000 in
set_option maxHeartbeats 16000000 in
theorem walk (a0 : Option Addr) (l0 c0 : Nat) (z0 : List Int) (w : World) (w0 : RowI .u8 w w.heap.size a0 l0 c0 z0) :
    Calls Try.prog 14 #[.slice a0 l0 c0] w fun e w' => e = .returned (.bool true) ∧ Below w.heap.size w w' := by
  have hcap := w0.cap
  unfold maxLen at hcap
  rcases (by omega : 1048576 < (l0 : Int) ∨ l0 ≤ 1048576) with hbig | hbig
  · have d0 : decide (1048576 < (l0 : Int)) = true := decide_eq_true hbig
    go_enter Try.func14, Try.ntmps14
    go_wp2_with (go_at_call 47; refine (big_any a0 l0 c0 _ (by omega)).mono ?_; rintro e w' ⟨rfl, rfl⟩; rw [d0])
    go_ret
    exact ⟨rfl, Below.refl _ _⟩
  have d0 : decide (1048576 < (l0 : Int)) = false := decide_eq_false (by omega)
  go_enter Try.func14, Try.ntmps14
  go_wp2_with fail
  refine (big_any a0 l0 c0 _ (by omega)).mono ?_
  rintro e w' ⟨rfl, rfl⟩
  rw [d0]
  go_wp2_with fail
  refine (drawParcels_any a0 l0 c0 z0 w w0 hbig).mono ?_
  rintro e w1 ⟨N, A, c, f, hN, rfl, HZ0, ho, hb1⟩
  have HZ := Lib.hid HZ0
  have hp1 : RowP 4 w1 w1.heap.size A N c f := ho.rowP (fun i hi j hj => (HZ.out i hi).wf hj)
  clear HZ0 d0 hcap ho
  have s1 := hb1.size
  go_wp2_with fail
  refine (at_any a0 l0 c0 z0 0 _ w1 (w0.keep fun p hp => hb1.cell hp) hbig (by omega)).mono ?_
  rintro e w' ⟨⟨a, ha, rfl⟩, rfl⟩
  go_wp2_with fail
  refine (at_any a0 l0 c0 z0 1 _ w1 (w0.keep fun p hp => hb1.cell hp) hbig (by omega)).mono ?_
  rintro e w' ⟨⟨v, hv, rfl⟩, rfl⟩
  obtain ⟨d, hd⟩ : ∃ d, d = v % 30 + 1 := ⟨_, rfl⟩
  have q1 : (v : Int).tmod 30 = ((v % 30 : Nat) : Int) := by rw [Int.tmod_eq_emod_of_nonneg (by omega)]; rfl
  obtain ⟨v3, hv3⟩ : ∃ v3, v3 = v % 30 := ⟨_, rfl⟩
  rw [← hv3] at q1 hd
  have d1 : 1 ≤ d := by omega
  have d2 : d ≤ 30 := by omega
  have q2 : (1 : Int) + (v3 : Int) = (d : Int) := by omega
  have q3 : IntKind.i64.wrap (1 + (v3 : Int)) = (d : Int) := by rw [IntWalk.i64_in _ (by omega)]; omega
  have v30 : v3 < 30 := by omega
  clear hv3 hd
  go_wp2_with fail
  clear q1 q2 q3 v30
  refine (at_any a0 l0 c0 z0 2 _ w1 (w0.keep fun p hp => hb1.cell hp) hbig (by omega)).mono ?_
  rintro e w' ⟨⟨t, ht, rfl⟩, rfl⟩
  obtain ⟨L, hL⟩ : ∃ L, L = lateMembs f a d t N := ⟨_, rfl⟩
  obtain ⟨G, hG⟩ : ∃ G, G = graceN f a d t N := ⟨_, rfl⟩
  have HD := Lib.hid (show Dl f N a d t L G by rw [hL, hG]; exact dl_of HZ.out (by omega) (by omega) (by omega) (by omega) (by omega) (by omega) (by omega))
  have HL := Lib.hid hL
  have HG := Lib.hid hG
  have HLw := Lib.hid (show ∀ z ∈ L, (Lit.int .i64 z).wf = true by rw [hL]; exact lateMembs_wf f a d t N)
  clear hL hG hv
  go_wp2_with fail
  refine (impl_grace A N c f a d t _ w1 hp1 (Nat.le_refl _) (by omega)).mono ?_
  rintro e w2 ⟨rfl, hb2⟩
  rw [← HG.out]
  have s2 := hb2.size
  have hb2' := hb1.trans (hb2.mono s1)
  have hp2 := hp1.below hb2
  clear hb1 hb2 hp1
  go_wp2_with fail
  refine (impl_lateM A N c f a d t L _ w2 hp2 (by omega) (by omega) HL).mono ?_
  rintro e w3 ⟨Al, cl, rfl, ol, hb3⟩
  have s3 := hb3.size
  have hb3' := hb2'.trans (hb3.mono (by omega))
  have hp3 := hp2.below (hb3.mono (by omega))
  have rl := ol.rowI HLw.out
  clear hb2' hb3 hp2 ol
  obtain ⟨l, hl⟩ : ∃ l, l = L.length := ⟨_, rfl⟩
  rw [← hl] at rl ⊢
  have HLl := Lib.hid hl
  have l10 : l ≤ 10 := by have := HD.out.len; omega
  clear hl
  have hGb : 0 ≤ G ∧ G ≤ 100000 := by rw [HD.out.g]; exact graceTo_bd _ _ _ _ _
  go_wp2_with fail
  go_loopw [9, 10, 11, 12, 13] (fun mv kv _ _ _ wr => ∃ k : Nat, k ≤ N ∧ kv = .int .i64 k ∧ mv = .int .i64 (graceTo f a d t k) ∧ Below w3.heap.size w3 wr) (fun _ kv _ _ _ _ => N - (intOf kv).toNat)
  case atStart => exact ⟨0, by omega, rfl, rfl, Below.refl _ _⟩
  case round =>
    obtain ⟨k, hk, rfl, rfl, hb⟩ := hrel
    have sb := hb.size
    by_cases hlt : k < N
    · obtain ⟨b, off, rfl, hbB, _⟩ := hp3.at_ hlt
      have hpk : RowP 4 wr w1.heap.size (some ⟨b, off, none⟩) N c f := hp3.below' hb (by omega)
      obtain ⟨x0, x1, x2, x3⟩ := hpk.four hlt
      have HO := Lib.hid (HD.out.one k hlt)
      have HX := Lib.hid (show graceTo f a d t (k + 1) = max (graceTo f a d t k) (lateDays (f k) a d t) from rfl)
      have gb := graceTo_bd f a d t k
      obtain ⟨M, hM⟩ : ∃ M, M = graceTo f a d t k := ⟨_, rfl⟩
      rw [← hM] at gb HX ⊢
      clear hM
      have k0 : (0 : Int) ≤ (k : Int) := by omega
      have k1 : (k : Int) < (N : Int) := by omega
      go_wp2_with fail
      refine (impl_late (f k) a d t wr).mono ?_
      rintro e w4 ⟨rfl, h4⟩
      have hb4 := hb.trans (h4.mono hb.size)
      have hp4 := hpk.below' h4 (by omega)
      clear hb hpk h4 x0 x1 x2 x3
      obtain ⟨x0, x1, x2, x3⟩ := hp4.four hlt
      go_wp2_with fail
      refine (impl_late (f k) a d (t + 1) w4).mono ?_
      rintro e w5 ⟨rfl, h5⟩
      have hb5 := hb4.trans (h5.mono hb4.size)
      have hp5 := hp4.below' h5 (by have := hb4.size; omega)
      clear hb4 hp4 h5 x0 x1 x2 x3
      obtain ⟨x0, x1, x2, x3⟩ := hp5.four hlt
      go_wp2_with fail
      refine (impl_due a (f k 0) d w5).mono ?_
      rintro e w' ⟨rfl, rfl⟩
      have HOk := Lib.hid HO.out.ok
      have X0 := HO.out.a0
      have X1 := HO.out.a1
      have Y0 := HO.out.b0
      have Y1 := HO.out.b1
      have D0 := HO.out.d0
      have D1 := HO.out.d1
      have HS := Lib.hid HO.out.same
      have H1 := Lib.hid HO.out.diff1
      have H0 := Lib.hid HO.out.diff0
      have HH := Lib.hid (HD.out.has k hlt)
      obtain ⟨X, hX⟩ : ∃ X, X = lateDays (f k) a d t := ⟨_, rfl⟩
      obtain ⟨Y, hY⟩ : ∃ Y, Y = lateDays (f k) a d (t + 1) := ⟨_, rfl⟩
      obtain ⟨DU, hDU⟩ : ∃ DU, DU = dueDay a (f k 0) d := ⟨_, rfl⟩
      rw [← hX] at X0 X1 HS H1 H0 HX HH ⊢
      rw [← hY] at Y0 Y1 HS H1 H0 ⊢
      rw [← hDU] at D0 D1 H1 H0 ⊢
      clear hX hY hDU HO
      have X2 : decide (X < 0) = false := decide_eq_false (by omega)
      rcases (by omega : 0 ≤ f k 3 ∨ f k 3 < 0) with c3 | c3
      · have HE := Lib.hid (HS.out c3)
        rw [← HE.out]
        have c4 : decide (0 ≤ f k 3) = true := decide_eq_true c3
        have c5 : decide (f k 3 < 0) = false := decide_eq_false (by omega)
        rcases (by omega : X ≤ 0 ∨ 0 < X) with xp | xp
        · have x4 : decide (0 < X) = false := decide_eq_false (by omega)
          have x5 : X ≤ M := by omega
          have HX2 := Lib.hid (show graceTo f a d t (k + 1) = M by rw [HX.out]; omega)
          go_wp2_with fail
          refine (impl_parcelOk (f k) w5).mono ?_
          rintro e w6 ⟨rfl, h6⟩
          rw [HOk.out]
          have hb6 := hb5.trans (h6.mono hb5.size)
          clear hb5 hp5 h6 x0 x1 x2 x3
          go_wp2
          go_roundw
          case rel => exact ⟨k + 1, by omega, by go_num, by rw [HX2.out], hb6⟩
          case measure => simp [intOf]; omega
        · rcases (by omega : X ≤ M ∨ M < X) with xm | xm
          · have x4 : decide (0 < X) = true := decide_eq_true xp
            have HP := Lib.hid (HH.out xp)
            have HX2 := Lib.hid (show graceTo f a d t (k + 1) = M by rw [HX.out]; omega)
            go_wp2_with fail
            refine (hask_any Al l cl L (f k 1) _ w5 (rl.keep fun p hp => hb5.cell hp) (by omega)).mono ?_
            rintro e w' ⟨rfl, rfl⟩
            rw [HP.out]
            go_wp2_with fail
            refine (impl_parcelOk (f k) w5).mono ?_
            rintro e w6 ⟨rfl, h6⟩
            rw [HOk.out]
            have hb6 := hb5.trans (h6.mono hb5.size)
            clear hb5 hp5 h6 x0 x1 x2 x3
            go_wp2
            go_roundw
            case rel => exact ⟨k + 1, by omega, by go_num, by rw [HX2.out], hb6⟩
            case measure => simp [intOf]; omega
          · have x4 : decide (0 < X) = true := decide_eq_true xp
            have HP := Lib.hid (HH.out xp)
            have HX2 := Lib.hid (show graceTo f a d t (k + 1) = X by rw [HX.out]; omega)
            go_wp2_with fail
            refine (hask_any Al l cl L (f k 1) _ w5 (rl.keep fun p hp => hb5.cell hp) (by omega)).mono ?_
            rintro e w' ⟨rfl, rfl⟩
            rw [HP.out]
            go_wp2_with fail
            refine (impl_parcelOk (f k) w5).mono ?_
            rintro e w6 ⟨rfl, h6⟩
            rw [HOk.out]
            have hb6 := hb5.trans (h6.mono hb5.size)
            clear hb5 hp5 h6 x0 x1 x2 x3
            go_wp2
            go_roundw
            case rel => exact ⟨k + 1, by omega, by go_num, by rw [HX2.out], hb6⟩
            case measure => simp [intOf]; omega
      · have c4 : decide (0 ≤ f k 3) = false := decide_eq_false (by omega)
        have c5 : decide (f k 3 < 0) = true := decide_eq_true c3
        rcases (by omega : DU < (t : Int) + 1 ∨ (t : Int) + 1 ≤ DU) with ct | ct
        · have y1 : decide (DU < (t : Int) + 1) = true := decide_eq_true ct
          have y2 : (Y - X != 1) = false := by simpa using H1.out c3 ct
          have y3 : (Y - X == 1) = true := beq_iff_eq.2 (H1.out c3 ct)
          rcases (by omega : X ≤ 0 ∨ 0 < X) with xp | xp
          · have x4 : decide (0 < X) = false := decide_eq_false (by omega)
            have x5 : X ≤ M := by omega
            have HX2 := Lib.hid (show graceTo f a d t (k + 1) = M by rw [HX.out]; omega)
            go_wp2_with fail
            refine (btoi_t _).mono ?_
            rintro e w' ⟨rfl, rfl⟩
            go_wp2_with fail
            refine (impl_parcelOk (f k) w5).mono ?_
            rintro e w6 ⟨rfl, h6⟩
            rw [HOk.out]
            have hb6 := hb5.trans (h6.mono hb5.size)
            clear hb5 hp5 h6 x0 x1 x2 x3
            go_wp2
            go_roundw
            case rel => exact ⟨k + 1, by omega, by go_num, by rw [HX2.out], hb6⟩
            case measure => simp [intOf]; omega
          · rcases (by omega : X ≤ M ∨ M < X) with xm | xm
            · have x4 : decide (0 < X) = true := decide_eq_true xp
              have HP := Lib.hid (HH.out xp)
              have HX2 := Lib.hid (show graceTo f a d t (k + 1) = M by rw [HX.out]; omega)
              go_wp2_with fail
              refine (btoi_t _).mono ?_
              rintro e w' ⟨rfl, rfl⟩
              go_wp2_with fail
              refine (hask_any Al l cl L (f k 1) _ w5 (rl.keep fun p hp => hb5.cell hp) (by omega)).mono ?_
              rintro e w' ⟨rfl, rfl⟩
              rw [HP.out]
              go_wp2_with fail
              refine (impl_parcelOk (f k) w5).mono ?_
              rintro e w6 ⟨rfl, h6⟩
              rw [HOk.out]
              have hb6 := hb5.trans (h6.mono hb5.size)
              clear hb5 hp5 h6 x0 x1 x2 x3
              go_wp2
              go_roundw
              case rel => exact ⟨k + 1, by omega, by go_num, by rw [HX2.out], hb6⟩
              case measure => simp [intOf]; omega
            · have x4 : decide (0 < X) = true := decide_eq_true xp
              have HP := Lib.hid (HH.out xp)
              have HX2 := Lib.hid (show graceTo f a d t (k + 1) = X by rw [HX.out]; omega)
              go_wp2_with fail
              refine (btoi_t _).mono ?_
              rintro e w' ⟨rfl, rfl⟩
              go_wp2_with fail
              refine (hask_any Al l cl L (f k 1) _ w5 (rl.keep fun p hp => hb5.cell hp) (by omega)).mono ?_
              rintro e w' ⟨rfl, rfl⟩
              rw [HP.out]
              go_wp2_with fail
              refine (impl_parcelOk (f k) w5).mono ?_
              rintro e w6 ⟨rfl, h6⟩
              rw [HOk.out]
              have hb6 := hb5.trans (h6.mono hb5.size)
              clear hb5 hp5 h6 x0 x1 x2 x3
              go_wp2
              go_roundw
              case rel => exact ⟨k + 1, by omega, by go_num, by rw [HX2.out], hb6⟩
              case measure => simp [intOf]; omega
        · have y1 : decide (DU < (t : Int) + 1) = false := decide_eq_false (by omega)
          have y2 : (Y - X != 0) = false := by simpa using H0.out c3 ct
          have y3 : (Y - X == 0) = true := beq_iff_eq.2 (H0.out c3 ct)
          rcases (by omega : X ≤ 0 ∨ 0 < X) with xp | xp
          · have x4 : decide (0 < X) = false := decide_eq_false (by omega)
            have x5 : X ≤ M := by omega
            have HX2 := Lib.hid (show graceTo f a d t (k + 1) = M by rw [HX.out]; omega)
            go_wp2_with fail
            refine (btoi_f _).mono ?_
            rintro e w' ⟨rfl, rfl⟩
            go_wp2_with fail
            refine (impl_parcelOk (f k) w5).mono ?_
            rintro e w6 ⟨rfl, h6⟩
            rw [HOk.out]
            have hb6 := hb5.trans (h6.mono hb5.size)
            clear hb5 hp5 h6 x0 x1 x2 x3
            go_wp2
            go_roundw
            case rel => exact ⟨k + 1, by omega, by go_num, by rw [HX2.out], hb6⟩
            case measure => simp [intOf]; omega
          · rcases (by omega : X ≤ M ∨ M < X) with xm | xm
            · have x4 : decide (0 < X) = true := decide_eq_true xp
              have HP := Lib.hid (HH.out xp)
              have HX2 := Lib.hid (show graceTo f a d t (k + 1) = M by rw [HX.out]; omega)
              go_wp2_with fail
              refine (btoi_f _).mono ?_
              rintro e w' ⟨rfl, rfl⟩
              go_wp2_with fail
              refine (hask_any Al l cl L (f k 1) _ w5 (rl.keep fun p hp => hb5.cell hp) (by omega)).mono ?_
              rintro e w' ⟨rfl, rfl⟩
              rw [HP.out]
              go_wp2_with fail
              refine (impl_parcelOk (f k) w5).mono ?_
              rintro e w6 ⟨rfl, h6⟩
              rw [HOk.out]
              have hb6 := hb5.trans (h6.mono hb5.size)
              clear hb5 hp5 h6 x0 x1 x2 x3
              go_wp2
              go_roundw
              case rel => exact ⟨k + 1, by omega, by go_num, by rw [HX2.out], hb6⟩
              case measure => simp [intOf]; omega
            · have x4 : decide (0 < X) = true := decide_eq_true xp
              have HP := Lib.hid (HH.out xp)
              have HX2 := Lib.hid (show graceTo f a d t (k + 1) = X by rw [HX.out]; omega)
              go_wp2_with fail
              refine (btoi_f _).mono ?_
              rintro e w' ⟨rfl, rfl⟩
              go_wp2_with fail
              refine (hask_any Al l cl L (f k 1) _ w5 (rl.keep fun p hp => hb5.cell hp) (by omega)).mono ?_
              rintro e w' ⟨rfl, rfl⟩
              rw [HP.out]
              go_wp2_with fail
              refine (impl_parcelOk (f k) w5).mono ?_
              rintro e w6 ⟨rfl, h6⟩
              rw [HOk.out]
              have hb6 := hb5.trans (h6.mono hb5.size)
              clear hb5 hp5 h6 x0 x1 x2 x3
              go_wp2
              go_roundw
              case rel => exact ⟨k + 1, by omega, by go_num, by rw [HX2.out], hb6⟩
              case measure => simp [intOf]; omega
    · obtain rfl : N = k := by omega
      rw [← HD.out.g]
      go_wp2_with fail
      go_loopw [14, 15, 16] (fun iv _ _ wx => ∃ i : Nat, i ≤ l ∧ iv = .int .i64 i ∧ Below w3.heap.size w3 wx) (fun iv _ _ _ => l - (intOf iv).toNat)
      case atStart => exact ⟨0, by omega, rfl, hb⟩
      case round =>
        clear hb sb
        obtain ⟨i, hi, rfl, hb⟩ := hrel
        by_cases hil : i < l
        · obtain ⟨bl, fl, rfl, hbl, hcl⟩ := rl.at_ hil
          obtain ⟨V, hV⟩ : ∃ V, V = nth L i := ⟨_, rfl⟩
          rw [← hV] at hcl
          have HV := Lib.hid (show fnd f a d t V N = true by rw [hV]; exact fnd_true (HD.out.found i (by rw [← HLl.out]; exact hil)))
          clear hV
          have i0 : (0 : Int) ≤ (i : Int) := by omega
          have i1 : (i : Int) < (l : Int) := by omega
          have hcl2 := Lib.hid hcl
          clear hcl
          go_wp2_with fail
          go_loopw [15, 16] (fun fv kv wx => ∃ q : Nat, q ≤ N ∧ kv = .int .i64 q ∧ fv = .bool (fnd f a d t V q) ∧ Below w3.heap.size w3 wx) (fun _ kv _ => N - (intOf kv).toNat)
          case atStart => exact ⟨0, by omega, rfl, rfl, hb⟩
          case round =>
            clear hb
            obtain ⟨q, hq, rfl, rfl, hb⟩ := hrel
            obtain ⟨wx, rfl⟩ : ∃ wx : World, wx = wr := ⟨_, rfl⟩
            by_cases hqN : q < N
            · obtain ⟨b, off, rfl, hbB, _⟩ := hp3.at_ hqN
              have hpk : RowP 4 wx w1.heap.size (some ⟨b, off, none⟩) N c f := hp3.below' hb (by omega)
              obtain ⟨x0, x1, x2, x3⟩ := hpk.four hqN
              have y0 := (hb.cell (p := ⟨bl, fl + i, none⟩) (by show bl < _; omega)).trans hcl2.out
              have sb := hb.size
              have l1 : b < wx.heap.size := by omega
              have l2 : bl < wx.heap.size := by omega
              have q0 : (0 : Int) ≤ (q : Int) := by omega
              have q1 : (q : Int) < (N : Int) := by omega
              clear hpk
              rcases Bool.eq_false_or_eq_true (fnd f a d t V q) with e | e
              · have HS := Lib.hid (show fnd f a d t V (q + 1) = true by simp [fnd, e])
                rw [e]
                clear e
                go_wp2_with fail
                go_quiet (fail)
                go_wp2
                go_roundw
                case rel => exact ⟨q + 1, by omega, by go_num, by rw [HS.out], ⟨hb.os, hb.tape, hb.output, hb.size, hb.block⟩⟩
                case measure => simp [intOf]; omega
              · rcases Bool.eq_false_or_eq_true (f q 1 == V) with e1 | e1
                · have HS := Lib.hid (show fnd f a d t V (q + 1) = decide (0 < lateDays (f q) a d t) by simp [fnd, e, e1])
                  rw [e]
                  clear e
                  go_wp2_with fail
                  go_region_held3 (fun w' => w'.cell? ⟨b, off + q * 4, none⟩ = some (.int .i64 (f q 0)) ∧ w'.cell? ⟨b, off + q * 4 + 1, none⟩ = some (.int .i64 (f q 1)) ∧ w'.cell? ⟨b, off + q * 4 + 2, none⟩ = some (.int .i64 (f q 2)) ∧ w'.cell? ⟨b, off + q * 4 + 3, none⟩ = some (.int .i64 (f q 3)) ∧ w'.cell? ⟨bl, fl + i, none⟩ = some (.int .i64 V)) (first | go_keep | (exact ⟨s0, s1, s2, s3, s4⟩)) (first | (go_at_call 36; ((with_reducible refine (spec_late (f q) a d t _).mono ?_); rintro e wc0 ⟨rfl, hbc0⟩); replace hbc0 := below_drew hbc0; obtain ⟨hcc0, hfc0⟩ := bcell hbc0; have s0 := (hcc0 b (off + q * 4) l1).trans x0; have s1 := (hcc0 b (off + q * 4 + 1) l1).trans x1; have s2 := (hcc0 b (off + q * 4 + 2) l1).trans x2; have s3 := (hcc0 b (off + q * 4 + 3) l1).trans x3; have s4 := (hcc0 bl (fl + i) l2).trans y0))
                  have b5 : Below w3.heap.size w3 wc0 := hb.trans (hbc0.mono hb.size)
                  clear hbc0 hcc0 hfc0 hb x0 x1 x2 x3 y0 s0 s1 s2 s3 s4
                  go_wp2
                  go_roundw
                  case rel => exact ⟨q + 1, by omega, by go_num, by rw [HS.out], b5⟩
                  case measure => simp [intOf]; omega
                · have HS := Lib.hid (show fnd f a d t V (q + 1) = false by simp [fnd, e, e1])
                  rw [e]
                  clear e
                  go_wp2_with fail
                  go_quiet (fail)
                  go_wp2
                  go_roundw
                  case rel => exact ⟨q + 1, by omega, by go_num, by rw [HS.out], ⟨hb.os, hb.tape, hb.output, hb.size, hb.block⟩⟩
                  case measure => simp [intOf]; omega
            · obtain rfl : N = q := by omega
              rw [HV.out]
              go_wp2
              go_roundw
              case rel => exact ⟨i + 1, by omega, by go_num, hb⟩
              case measure => simp [intOf]; omega
        · obtain rfl : l = i := by omega
          have HN := HD.out.none
          rw [← HLl.out] at HN
          rcases (by omega : (G = 0 ∧ l = 0) ∨ (¬ G = 0 ∧ ¬ l = 0)) with ⟨g1, g2⟩ | ⟨g1, g2⟩
          · have e1 : (G == 0) = true := beq_iff_eq.2 g1
            have e2 : ((l : Int) == 0) = true := beq_iff_eq.2 (by omega)
            have e3 : (l == 0) = true := beq_iff_eq.2 g2
            clear HN g1 g2
            go_wp2_with fail
            refine (impl_due a 0 d wr).mono ?_
            rintro e w' ⟨rfl, rfl⟩
            rw [due_zero (by omega) (by omega) (by omega) (by omega)]
            go_wp2_with fail
            refine (impl_due 3 1 10 wr).mono ?_
            rintro e w' ⟨rfl, rfl⟩
            rw [due_23]
            go_wp2
            go_ret
            exact ⟨rfl, hb3'.trans (hb.mono (by omega))⟩
          · have e1 : (G == 0) = false := beq_eq_false_iff_ne.2 g1
            have e2 : ((l : Int) == 0) = false := beq_eq_false_iff_ne.2 (by omega)
            have e3 : (l == 0) = false := beq_eq_false_iff_ne.2 g2
            clear HN
            go_wp2_with fail
            refine (impl_due a 0 d wr).mono ?_
            rintro e w' ⟨rfl, rfl⟩
            rw [due_zero (by omega) (by omega) (by omega) (by omega)]
            go_wp2_with fail
            refine (impl_due 3 1 10 wr).mono ?_
            rintro e w' ⟨rfl, rfl⟩
            rw [due_23]
            go_wp2
            go_ret
            exact ⟨rfl, hb3'.trans (hb.mono (by omega))⟩

set_option maxRecDepth 100000 in
theorem lifted (os : Os) (started : os.Started) (H : Type) (enc : TypeId × Value → H) :
    ReturnsInHanded {} Try.checked os 14 .any (Rows.fnDeadlinesSpec.pre6 enc Try.prog Try.f14 Rows.fnDeadlinesRow.domain false) (Rows.fnDeadlinesSpec.post enc Try.prog Try.f14 false true false false) := by
  refine returnsInHanded_of_change (C := Try.checked) own started (by kernel_rfl) Try.func14
    (ChangeSpec.witness6 (enc := enc) (C := Try.checked) false ⟨#[], #[.slice none 0 0], []⟩ 8 (by kernel_rfl) (by kernel_rfl) (by kernel_rfl) (by kernel_rfl)) ?_
  intro W base args ds gs before hval0 hW hcnd _
  have hval : ∀ (j : Nat) t v, Try.f14.params[j]? = some t → args[j]? = some v → Value.okWide Try.prog W .any base t v := hval0
  have hW' := hW
  obtain ⟨p, q, hA0, hV, rfl, hfz, hnd⟩ := hW
  have hA : DataW.TrodAll enc Try.prog W 0 (fun _ => true) true Try.f14.params.toList args.toList ds p := hA0
  rw [Try.params14] at hA hval
  obtain ⟨v0, vs0, d0, ds0, p0, q0, hargs, rfl, rfl, h0, r0⟩ := trodAll_cons hA
  obtain ⟨rfl, rfl, rfl⟩ := trodAll_nil r0
  obtain rfl : args = #[v0] := by cases args; simp_all
  obtain ⟨rfl, rfl⟩ := trodVars_none hV
  have k0 := h0
  have lt0 : ∀ x ∈ p0, x.block < W.heap.size := by obtain ⟨m, hm⟩ := k0; exact DataW.trod_lt m _ _ _ hm
  obtain ⟨a0, l0, c0, rfl⟩ := okWide_slice Try.underlying54 (hval 0 54 v0 rfl rfl)
  obtain ⟨z0, w0⟩ := open_rowI Try.underlying54 Try.underlying5 (by kernel_rfl) (h0)
  clear hA0 hval0
  refine (walk a0 l0 c0 z0 W w0).mono fun e W' ⟨he, bel⟩ => ?_
  subst he
  exact ⟨_, rfl, _, _, _, [], _, [], hW', trodAll_mk1 (shut_bool Try.underlying4 _), (trodAll_cons_mk (Below.trod laidOut (by kernel_rfl) (of_decide_eq_true (by kernel_rfl)) k0 bel lt0) trodAll_mk0), rfl, bel.frame _, fun h => by cases h⟩

theorem over : Rows.fnDeadlinesRow.holds Try.pinned (OpenSpec.ofChange Rows.fnDeadlinesSpec) :=
  OpenClaim.holds_of_wide 14 Try.f14 rfl rfl rfl rfl rfl rfl rfl ⟨rfl, rfl, rfl, rfl, rfl⟩ rfl rfl rfl rfl rfl (by kernel_rfl) Try.func14 (by kernel_rfl)
    (of_decide_eq_true (by kernel_rfl)) (by unfold Func.isWrapper; first | (rw [if_pos (by decide +kernel)]; kernel_rfl) | (rw [if_neg (by decide +kernel)]; exact ⟨rfl, rfl⟩))
    (fun os started H enc _ => lifted os started H enc)

/-- The statement. -/
theorem proved : Rows.FnDeadlinesSaid := over
#print axioms proved
end Go.Proofs.Ythfhbcgnninlkaa.fnDeadlines
