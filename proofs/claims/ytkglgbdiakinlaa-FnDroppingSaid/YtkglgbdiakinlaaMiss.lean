/- Contracts of the pairs that are missing and owed: the program's side. -/
import Derived.Test.YtkglgbdiakinlaaSends
import Derived.Test.YtkglgbdiakinlaaRep
import Derived.Test.YtkglgbdiakinlaaPureZ
namespace Go.Proofs.Ytkglgbdiakinlaa
open Go.ChangeShapes Go.WideShapes Go.ChangeAt Go.RowKit
theorem own_two (w : World) (x y : Int) : OwnI (w.alloc (.cells #[.int .i64 x, .int .i64 y] 3)) w.heap.size (.slice (some ⟨w.heap.size, 0, none⟩) 2 2) [x, y] :=
  World.ownsRow_lit w #[.int .i64 x, .int .i64 y] 2 (Nat.le_refl _) (by unfold maxLen; omega) rfl
theorem makeFunc_run (fn : Fn) (first cap : Array Value) (w : World) : (Instr.makeFunc fn first cap).run Try.prog w = .ok (.func fn first cap) w := rfl
theorem fn_miss (A : Option Addr) (l c : Nat) (z : Nat → List Int) (b : Nat) (i k : Nat) (B : Nat) (w : World) (h : RowII w B A l c z) (hc : w.cell? ⟨b, 0, none⟩ = some (.slice A l c)) (hi : ∀ j, j < l → i < (z j).length) :
    Calls Try.prog 61 #[.int .i64 i, .int .i64 k, .pointer (some ⟨b, 0, none⟩)] w fun e w' => e = .returned (.bool (!sent z i k l)) ∧ w = w' := by
  have HX := Lib.hid hi
  clear hi
  go_enter Try.func61, Try.ntmps61
  go_wp2_with (go_at_call 57; refine (impl_sends A l c z i k B _ h HX.out).mono ?_; rintro e w' ⟨rfl, rfl⟩)
  go_ret
  exact ⟨rfl, rfl⟩
set_option maxHeartbeats 8000000 in
theorem where_miss (N : Nat) (A : Option Addr) (l c : Nat) (z : Nat → List Int) (b : Nat) (B : Nat) (L : List (List Int)) (w : World) (h : RowII w B A l c z) (hB : B ≤ w.heap.size) (hc : w.cell? ⟨b, 0, none⟩ = some (.slice A l c)) (hbb : b < w.heap.size) (hN : N ≤ 10) (hlen : ∀ j, j < l → N ≤ (z j).length) (hL : Hid (L = pairsL N (missP z l) (N * N))) :
    Calls Try.prog 60 #[.int .i64 N, .func (.func 61) #[] #[.pointer (some ⟨b, 0, none⟩)]] w fun e w' => ∃ A2 c2, e = .returned (.slice A2 L.length c2) ∧ OwnII w' w.heap.size w'.heap.size (.slice A2 L.length c2) L.length (zOf L) ∧ Below w.heap.size w w' := by
  have hcap := h.cap
  unfold maxLen at hcap
  obtain ⟨P, hP⟩ : ∃ P, P = pairsL N (missP z l) := ⟨_, rfl⟩
  have HL := Lib.hid (show L = P (N * N) by rw [hP]; exact hL.out)
  have HP0 := Lib.hid (show P 0 = [] by rw [hP]; rfl)
  have HPl := Lib.hid (fun q => (show (P q).length ≤ q by rw [hP]; exact pairsL_len _ _ _))
  have HPy := Lib.hid (fun i k (hk : k < N) (e : (missP z l) i k = true) => (show P (i * N + k + 1) = P (i * N + k) ++ [[(i : Int), (k : Int)]] by rw [hP]; exact pairsL_yes hk e))
  have HPn := Lib.hid (fun i k (hk : k < N) (e : (missP z l) i k = false) => (show P (i * N + k + 1) = P (i * N + k) by rw [hP]; exact pairsL_no hk e))
  clear hP hL
  have HX := Lib.hid hlen
  clear hlen
  go_enter Try.func60, Try.ntmps60
  go_wp2_with fail
  go_loopw [5, 6, 7, 10] (fun v _ _ ix wr => ∃ i : Nat, i ≤ N ∧ ix = .int .i64 i ∧ OwnII wr w.heap.size wr.heap.size v (P (i * N)).length (zOf (P (i * N))) ∧ Below w.heap.size w wr) (fun _ _ _ ix _ => N - (intOf ix).toNat)
  case atStart => exact ⟨0, by omega, rfl, by rw [Nat.zero_mul, HP0.out]; exact (ownII_empty w _).more (by simp), (Below.refl _ _).alloc (Nat.le_refl _) _⟩
  case round =>
    obtain ⟨i, hi, rfl, hown, hb⟩ := hrel
    by_cases hil : i < N
    · have i0 : (0 : Int) ≤ (i : Int) := by omega
      have i3 : (i : Int) < (N : Int) := by omega
      go_wp2_with fail
      obtain ⟨wo, rfl⟩ : ∃ wo : World, wo = wr := ⟨_, rfl⟩
      go_loopw [5, 7, 14] (fun v _ ix wr => ∃ k : Nat, k ≤ N ∧ ix = .int .i64 k ∧ OwnII wr w.heap.size wr.heap.size v (P (i * N + k)).length (zOf (P (i * N + k))) ∧ Below w.heap.size w wr) (fun _ _ ix _ => N - (intOf ix).toNat)
      case atStart => exact ⟨0, by omega, rfl, hown, hb⟩
      case round =>
        clear hown hb
        obtain ⟨k, hk, rfl, hown, hb⟩ := hrel
        by_cases hkl : k < N
        · have k0 : (0 : Int) ≤ (k : Int) := by omega
          have k3 : (k : Int) < (N : Int) := by omega
          by_cases hik : i = k
          · have a1 : (i == k) = true := by simpa using hik
            have a2 : (i != k) = false := by simp [bne, a1]
            have a3 : ((i : Int) == (k : Int)) = true := by simp [hik]
            have a4 : ((i : Int) != (k : Int)) = false := by simp [bne, a3]
            have HS := Lib.hid (HPn.out i k hkl (by unfold missP; rw [a1]; rfl))
            rw [← HS.out] at hown
            clear hik
            go_wp2
            go_roundw
            case rel => exact ⟨k + 1, by omega, by go_num, hown, hb⟩
            case measure => simp [intOf]; omega
          · have a1 : (i == k) = false := by simpa using hik
            have a2 : (i != k) = true := by simp [bne, a1]
            have a3 : ((i : Int) == (k : Int)) = false := by simp; omega
            have a4 : ((i : Int) != (k : Int)) = true := by simp [bne, a3]
            have h2 : RowII wr B A l c z := h.keep fun p hp => hb.cell (by omega)
            have hc2 : wr.cell? ⟨b, 0, none⟩ = some (.slice A l c) := (hb.cell (p := ⟨b, 0, none⟩) hbb).trans hc
            have hbw := hb.size
            have HR := Lib.hid (show (missP z l) i k = (!sent z i (k : Int) l) by unfold missP; rw [a1]; rfl)
            rcases Bool.eq_false_or_eq_true ((!sent z i (k : Int) l)) with s | s
            · have HS := Lib.hid (HPy.out i k hkl (HR.out.trans s))
              have hlen := HPl.out (i * N + k)
              have hq : i * N + k ≤ 110 := by have := Nat.mul_le_mul (show i ≤ 10 by omega) hN; omega
              have hown2 := hown.congr (z' := zOf (P (i * N + k) ++ [[(i : Int), (k : Int)]])) (fun j hj => (zOf_l hj).symm)
              have hrow : OwnI (wr.alloc (.cells #[.int .i64 i, .int .i64 k] 3)) wr.heap.size (.slice (some ⟨wr.heap.size, 0, none⟩) 2 2) (zOf (P (i * N + k) ++ [[(i : Int), (k : Int)]]) (P (i * N + k)).length) := by rw [zOf_r]; exact own_two wr _ _
              clear hown
              go_wp2_with (first | (go_at_call 61; refine (fn_miss A l c z b i k B wr h2 hc2 (fun j hj => by have := HX.out j hj; omega)).mono ?_; rintro e w' ⟨rfl, rfl⟩; rw [s]) | (at_builtin; (refine appII_plain rfl _ _ rfl w.heap.size wr.heap.size (P (i * N + k)).length _ _ (zOf (P (i * N + k) ++ [[(i : Int), (k : Int)]])) (wr.heap.size + 1) rfl (ownII_alloc (ownII_alloc hown2 _) _) (hrow.alloc _) hbw rfl (by simpa using heap_alloc_new (wr.alloc (.cells #[.int .i64 i, .int .i64 k] 3)) _) (by omega) (by simp; omega) ?_); intro v4 w4 ho4 hb4))
              have e5 : (P (i * N + k)).length + 1 = (P (i * N + k + 1)).length := by rw [HS.out]; simp
              rw [← HS.out, e5] at ho4
              have hb5 := ((hb.alloc hbw (.cells #[.int .i64 i, .int .i64 k] 3)).alloc (by simp; omega) _).trans hb4
              clear hb4 hown2 hrow hlen e5
              go_wp2
              go_roundw
              case rel => exact ⟨k + 1, by omega, by go_num, ho4, hb5⟩
              case measure => simp [intOf]; omega
            · have HS := Lib.hid (HPn.out i k hkl (HR.out.trans s))
              rw [← HS.out] at hown
              go_wp2_with (go_at_call 61; refine (fn_miss A l c z b i k B wr h2 hc2 (fun j hj => by have := HX.out j hj; omega)).mono ?_; rintro e w' ⟨rfl, rfl⟩; rw [s])
              go_roundw
              case rel => exact ⟨k + 1, by omega, by go_num, hown, hb⟩
              case measure => simp [intOf]; omega
        · have k3 : ¬ (k : Int) < (N : Int) := by omega
          have HE := Lib.hid (show i * N + k = (i + 1) * N by rw [Nat.succ_mul]; omega)
          rw [HE.out] at hown
          go_wp2
          go_roundw
          case rel => exact ⟨i + 1, by omega, by go_num, hown, hb⟩
          case measure => simp [intOf]; omega
    · have i3 : ¬ (i : Int) < (N : Int) := by omega
      have HE := Lib.hid (show P (i * N) = L by rw [HL.out, show i = N by omega])
      rw [HE.out] at hown
      obtain ⟨A2, c2, hv⟩ := hown.shape
      have HV := Lib.hid hv
      clear hv
      go_wp2
      go_ret
      rw [HV.out] at hown
      exact ⟨A2, c2, by rw [HV.out]; rfl, hown, hb⟩
theorem fn_owed (A : Option Addr) (l c : Nat) (z : Nat → List Int) (b b2 d : Nat) (i k : Nat) (B : Nat) (w : World) (h : RowII w B A l c z) (hc : w.cell? ⟨b, 0, none⟩ = some (.slice A l c)) (hc2 : w.cell? ⟨b2, 0, none⟩ = some (.int .i64 d)) (hd : d ≤ l) (hi : ∀ j, j < l → i < (z j).length) :
    Calls Try.prog 62 #[.int .i64 i, .int .i64 k, .pointer (some ⟨b, 0, none⟩), .pointer (some ⟨b2, 0, none⟩)] w fun e w' => e = .returned (.bool (sent z i k l && !sent z i k d)) ∧ w = w' := by
  have HX := Lib.hid hi
  have hcap := h.cap
  unfold maxLen at hcap
  clear hi
  have d0 : (0 : Int) ≤ (d : Int) := by omega
  have d1 : (d : Int) ≤ (l : Int) := by omega
  have d2 : (d : Int) ≤ (c : Int) := by omega
  rcases Bool.eq_false_or_eq_true (sent z i k l) with s | s
  · go_enter Try.func62, Try.ntmps62
    go_wp2_with fail
    refine (impl_sends A l c z i k B _ h HX.out).mono ?_
    rintro e w' ⟨rfl, rfl⟩
    rw [s]
    go_wp2_with fail
    refine (impl_sends A d c z i k B _ (h.cut hd) (fun j hj => HX.out j (by omega))).mono ?_
    rintro e w' ⟨rfl, rfl⟩
    go_wp2
    go_ret
    exact ⟨ret_bool (by rw [s]; rfl), rfl⟩
  · go_enter Try.func62, Try.ntmps62
    go_wp2_with fail
    refine (impl_sends A l c z i k B _ h HX.out).mono ?_
    rintro e w' ⟨rfl, rfl⟩
    rw [s]
    go_wp2
    go_ret
    exact ⟨ret_bool (by rw [s]; rfl), rfl⟩
set_option maxHeartbeats 8000000 in
theorem where_owed (N : Nat) (A : Option Addr) (l c : Nat) (z : Nat → List Int) (b b2 d : Nat) (B : Nat) (L : List (List Int)) (w : World) (h : RowII w B A l c z) (hB : B ≤ w.heap.size) (hc : w.cell? ⟨b, 0, none⟩ = some (.slice A l c)) (hbb : b < w.heap.size) (hd : w.cell? ⟨b2, 0, none⟩ = some (.int .i64 d)) (hbd : b2 < w.heap.size) (hdl : d ≤ l) (hN : N ≤ 10) (hlen : ∀ j, j < l → N ≤ (z j).length) (hL : Hid (L = pairsL N (owedP z l d) (N * N))) :
    Calls Try.prog 60 #[.int .i64 N, .func (.func 62) #[] #[.pointer (some ⟨b, 0, none⟩), .pointer (some ⟨b2, 0, none⟩)]] w fun e w' => ∃ A2 c2, e = .returned (.slice A2 L.length c2) ∧ OwnII w' w.heap.size w'.heap.size (.slice A2 L.length c2) L.length (zOf L) ∧ Below w.heap.size w w' := by
  have hcap := h.cap
  unfold maxLen at hcap
  obtain ⟨P, hP⟩ : ∃ P, P = pairsL N (owedP z l d) := ⟨_, rfl⟩
  have HL := Lib.hid (show L = P (N * N) by rw [hP]; exact hL.out)
  have HP0 := Lib.hid (show P 0 = [] by rw [hP]; rfl)
  have HPl := Lib.hid (fun q => (show (P q).length ≤ q by rw [hP]; exact pairsL_len _ _ _))
  have HPy := Lib.hid (fun i k (hk : k < N) (e : (owedP z l d) i k = true) => (show P (i * N + k + 1) = P (i * N + k) ++ [[(i : Int), (k : Int)]] by rw [hP]; exact pairsL_yes hk e))
  have HPn := Lib.hid (fun i k (hk : k < N) (e : (owedP z l d) i k = false) => (show P (i * N + k + 1) = P (i * N + k) by rw [hP]; exact pairsL_no hk e))
  clear hP hL
  have HX := Lib.hid hlen
  clear hlen
  go_enter Try.func60, Try.ntmps60
  go_wp2_with fail
  go_loopw [5, 6, 7, 10] (fun v _ _ ix wr => ∃ i : Nat, i ≤ N ∧ ix = .int .i64 i ∧ OwnII wr w.heap.size wr.heap.size v (P (i * N)).length (zOf (P (i * N))) ∧ Below w.heap.size w wr) (fun _ _ _ ix _ => N - (intOf ix).toNat)
  case atStart => exact ⟨0, by omega, rfl, by rw [Nat.zero_mul, HP0.out]; exact (ownII_empty w _).more (by simp), (Below.refl _ _).alloc (Nat.le_refl _) _⟩
  case round =>
    obtain ⟨i, hi, rfl, hown, hb⟩ := hrel
    by_cases hil : i < N
    · have i0 : (0 : Int) ≤ (i : Int) := by omega
      have i3 : (i : Int) < (N : Int) := by omega
      go_wp2_with fail
      obtain ⟨wo, rfl⟩ : ∃ wo : World, wo = wr := ⟨_, rfl⟩
      go_loopw [5, 7, 14] (fun v _ ix wr => ∃ k : Nat, k ≤ N ∧ ix = .int .i64 k ∧ OwnII wr w.heap.size wr.heap.size v (P (i * N + k)).length (zOf (P (i * N + k))) ∧ Below w.heap.size w wr) (fun _ _ ix _ => N - (intOf ix).toNat)
      case atStart => exact ⟨0, by omega, rfl, hown, hb⟩
      case round =>
        clear hown hb
        obtain ⟨k, hk, rfl, hown, hb⟩ := hrel
        by_cases hkl : k < N
        · have k0 : (0 : Int) ≤ (k : Int) := by omega
          have k3 : (k : Int) < (N : Int) := by omega
          by_cases hik : i = k
          · have a1 : (i == k) = true := by simpa using hik
            have a2 : (i != k) = false := by simp [bne, a1]
            have a3 : ((i : Int) == (k : Int)) = true := by simp [hik]
            have a4 : ((i : Int) != (k : Int)) = false := by simp [bne, a3]
            have HS := Lib.hid (HPn.out i k hkl (by unfold owedP; rw [a1]; rfl))
            rw [← HS.out] at hown
            clear hik
            go_wp2
            go_roundw
            case rel => exact ⟨k + 1, by omega, by go_num, hown, hb⟩
            case measure => simp [intOf]; omega
          · have a1 : (i == k) = false := by simpa using hik
            have a2 : (i != k) = true := by simp [bne, a1]
            have a3 : ((i : Int) == (k : Int)) = false := by simp; omega
            have a4 : ((i : Int) != (k : Int)) = true := by simp [bne, a3]
            have h2 : RowII wr B A l c z := h.keep fun p hp => hb.cell (by omega)
            have hc2 : wr.cell? ⟨b, 0, none⟩ = some (.slice A l c) := (hb.cell (p := ⟨b, 0, none⟩) hbb).trans hc
            have hd2 : wr.cell? ⟨b2, 0, none⟩ = some (.int .i64 d) := (hb.cell (p := ⟨b2, 0, none⟩) hbd).trans hd
            have hbw := hb.size
            have HR := Lib.hid (show (owedP z l d) i k = (sent z i (k : Int) l && !sent z i (k : Int) d) by unfold owedP; rw [a1]; rfl)
            rcases Bool.eq_false_or_eq_true ((sent z i (k : Int) l && !sent z i (k : Int) d)) with s | s
            · have HS := Lib.hid (HPy.out i k hkl (HR.out.trans s))
              have hlen := HPl.out (i * N + k)
              have hq : i * N + k ≤ 110 := by have := Nat.mul_le_mul (show i ≤ 10 by omega) hN; omega
              have hown2 := hown.congr (z' := zOf (P (i * N + k) ++ [[(i : Int), (k : Int)]])) (fun j hj => (zOf_l hj).symm)
              have hrow : OwnI (wr.alloc (.cells #[.int .i64 i, .int .i64 k] 3)) wr.heap.size (.slice (some ⟨wr.heap.size, 0, none⟩) 2 2) (zOf (P (i * N + k) ++ [[(i : Int), (k : Int)]]) (P (i * N + k)).length) := by rw [zOf_r]; exact own_two wr _ _
              clear hown
              go_wp2_with (first | (go_at_call 62; refine (fn_owed A l c z b b2 d i k B wr h2 hc2 hd2 hdl (fun j hj => by have := HX.out j hj; omega)).mono ?_; rintro e w' ⟨rfl, rfl⟩; rw [s]) | (at_builtin; (refine appII_plain rfl _ _ rfl w.heap.size wr.heap.size (P (i * N + k)).length _ _ (zOf (P (i * N + k) ++ [[(i : Int), (k : Int)]])) (wr.heap.size + 1) rfl (ownII_alloc (ownII_alloc hown2 _) _) (hrow.alloc _) hbw rfl (by simpa using heap_alloc_new (wr.alloc (.cells #[.int .i64 i, .int .i64 k] 3)) _) (by omega) (by simp; omega) ?_); intro v4 w4 ho4 hb4))
              have e5 : (P (i * N + k)).length + 1 = (P (i * N + k + 1)).length := by rw [HS.out]; simp
              rw [← HS.out, e5] at ho4
              have hb5 := ((hb.alloc hbw (.cells #[.int .i64 i, .int .i64 k] 3)).alloc (by simp; omega) _).trans hb4
              clear hb4 hown2 hrow hlen e5
              go_wp2
              go_roundw
              case rel => exact ⟨k + 1, by omega, by go_num, ho4, hb5⟩
              case measure => simp [intOf]; omega
            · have HS := Lib.hid (HPn.out i k hkl (HR.out.trans s))
              rw [← HS.out] at hown
              go_wp2_with (go_at_call 62; refine (fn_owed A l c z b b2 d i k B wr h2 hc2 hd2 hdl (fun j hj => by have := HX.out j hj; omega)).mono ?_; rintro e w' ⟨rfl, rfl⟩; rw [s])
              go_roundw
              case rel => exact ⟨k + 1, by omega, by go_num, hown, hb⟩
              case measure => simp [intOf]; omega
        · have k3 : ¬ (k : Int) < (N : Int) := by omega
          have HE := Lib.hid (show i * N + k = (i + 1) * N by rw [Nat.succ_mul]; omega)
          rw [HE.out] at hown
          go_wp2
          go_roundw
          case rel => exact ⟨i + 1, by omega, by go_num, hown, hb⟩
          case measure => simp [intOf]; omega
    · have i3 : ¬ (i : Int) < (N : Int) := by omega
      have HE := Lib.hid (show P (i * N) = L by rw [HL.out, show i = N by omega])
      rw [HE.out] at hown
      obtain ⟨A2, c2, hv⟩ := hown.shape
      have HV := Lib.hid hv
      clear hv
      go_wp2
      go_ret
      rw [HV.out] at hown
      exact ⟨A2, c2, by rw [HV.out]; rfl, hown, hb⟩
set_option maxHeartbeats 4000000 in
theorem impl_miss (n : Int) (A : Option Addr) (l c : Nat) (z : Nat → List Int) (B : Nat) (L : List (List Int)) (w : World) (h : RowII w B A l c z) (hB : B ≤ w.heap.size) (hL : Hid (L = missL n z l)) :
    Calls Try.prog 37 #[.int .i64 n, .slice A l c] w fun e w' => ∃ A2 c2, e = .returned (.slice A2 L.length c2) ∧ OwnII w' w.heap.size w'.heap.size (.slice A2 L.length c2) L.length (zOf L) ∧ Below w.heap.size w w' := by
  have hmf := makeFunc_run
  have h2 : RowII (w.alloc (.cells #[.slice A l c] 22)) B A l c z := h.keep fun p hp => ((Below.refl _ _).alloc (Nat.le_refl _) _).cell (by omega)
  rcases Bool.eq_false_or_eq_true (plansOk n z l) with hO | hO
  · have hP := plan_of hO
    have n1 := hP.n1
    have n9 := hP.n9
    obtain ⟨N, rfl⟩ : ∃ N : Nat, n = N := ⟨n.toNat, by omega⟩
    have HL := Lib.hid (show L = pairsL N (missP z l) (N * N) by rw [hL.out]; unfold missL; rw [hO, if_pos rfl, Int.toNat_natCast])
    go_enter Try.func37, Try.ntmps37
    go_wp2_with fail
    refine (impl_plans N A l c z B _ h2).mono ?_
    rintro e w' ⟨rfl, rfl⟩
    rw [hO]
    clear hO
    go_wp2_with fail
    refine (where_miss N A l c z w.heap.size B L _ h2 (by simp; omega) (by simp) (by simp) (by omega) (fun j hj => by have := hP.len j hj; omega) HL).mono ?_
    rintro e w1 ⟨A2, c2, rfl, ho1, hb1⟩
    have hb2 := ((Below.refl _ w).alloc (Nat.le_refl _) (.cells #[.slice A l c] 22)).trans (hb1.mono (by simp))
    have ho2 : OwnII w1 w.heap.size w1.heap.size (.slice A2 L.length c2) L.length (zOf L) := ho1.down (by simp)
    clear ho1 hb1
    go_wp2
    go_ret
    exact ⟨A2, c2, rfl, ho2, hb2⟩
  · have HL := Lib.hid (show L = [] by rw [hL.out]; unfold missL; rw [hO]; rfl)
    go_enter Try.func37, Try.ntmps37
    go_wp2_with fail
    refine (impl_plans n A l c z B _ h2).mono ?_
    rintro e w' ⟨rfl, rfl⟩
    rw [hO]
    clear hO
    go_wp2
    go_ret
    rw [HL.out]
    exact ⟨none, 0, rfl, ownII_nil _ _ _ _, (Below.refl _ _).alloc (Nat.le_refl _) _⟩
set_option maxHeartbeats 4000000 in
theorem impl_owed (n : Int) (A : Option Addr) (l c : Nat) (z : Nat → List Int) (d : Int) (B : Nat) (L : List (List Int)) (w : World) (h : RowII w B A l c z) (hB : B ≤ w.heap.size) (hL : Hid (L = owedL n z l d)) :
    Calls Try.prog 39 #[.int .i64 n, .slice A l c, .int .i64 d] w fun e w' => ∃ A2 c2, e = .returned (.slice A2 L.length c2) ∧ OwnII w' w.heap.size w'.heap.size (.slice A2 L.length c2) L.length (zOf L) ∧ Below w.heap.size w w' := by
  have hmf := makeFunc_run
  have hcap := h.cap
  unfold maxLen at hcap
  have hb0 : Below w.heap.size w ((w.alloc (.cells #[.slice A l c] 22)).alloc (.cells #[.int .i64 d] 3)) := ((Below.refl _ _).alloc (Nat.le_refl _) _).alloc (by simp) _
  have h2 : RowII ((w.alloc (.cells #[.slice A l c] 22)).alloc (.cells #[.int .i64 d] 3)) B A l c z := h.keep fun p hp => hb0.cell (by omega)
  rcases Bool.eq_false_or_eq_true (plansOk n z l) with hO | hO
  · have hP := plan_of hO
    have n1 := hP.n1
    have n9 := hP.n9
    obtain ⟨N, rfl⟩ : ∃ N : Nat, n = N := ⟨n.toNat, by omega⟩
    rcases inB_or d 0 l with ⟨hI, d0, dl⟩ | hI
    · obtain ⟨D, rfl⟩ : ∃ D : Nat, d = D := ⟨d.toNat, by omega⟩
      have HL := Lib.hid (show L = pairsL N (owedP z l D) (N * N) by rw [hL.out]; unfold owedL; rw [hO, hI, Bool.and_self, if_pos rfl, Int.toNat_natCast, Int.toNat_natCast])
      go_enter Try.func39, Try.ntmps39
      go_wp2_with fail
      refine (impl_plans N A l c z B _ h2).mono ?_
      rintro e w' ⟨rfl, rfl⟩
      rw [hO]
      clear hO
      go_wp2_with (go_at_call 51; refine (within_any _ _ _ _).mono ?_; rintro e w' ⟨rfl, rfl⟩)
      refine (where_owed N A l c z w.heap.size (w.heap.size + 1) D B L _ h2 (by simp; omega) (by simp) (by simp; omega) (by simp) (by simp) (by omega) (by omega) (fun j hj => by have := hP.len j hj; omega) HL).mono ?_
      rintro e w1 ⟨A2, c2, rfl, ho1, hb1⟩
      have hb2 := hb0.trans (hb1.mono (by simp; omega))
      have ho2 : OwnII w1 w.heap.size w1.heap.size (.slice A2 L.length c2) L.length (zOf L) := ho1.down (by simp; omega)
      clear ho1 hb1
      go_wp2
      go_ret
      exact ⟨A2, c2, rfl, ho2, hb2⟩
    · have HL := Lib.hid (show L = [] by rw [hL.out]; unfold owedL; rw [hI, Bool.and_false]; rfl)
      go_enter Try.func39, Try.ntmps39
      go_wp2_with fail
      refine (impl_plans N A l c z B _ h2).mono ?_
      rintro e w' ⟨rfl, rfl⟩
      rw [hO]
      clear hO
      go_wp2_with (go_at_call 51; refine (within_any _ _ _ _).mono ?_; rintro e w' ⟨rfl, rfl⟩)
      go_ret
      rw [HL.out]
      exact ⟨none, 0, rfl, ownII_nil _ _ _ _, hb0⟩
  · have HL := Lib.hid (show L = [] by rw [hL.out]; unfold owedL; rw [hO]; rfl)
    go_enter Try.func39, Try.ntmps39
    go_wp2_with fail
    refine (impl_plans n A l c z B _ h2).mono ?_
    rintro e w' ⟨rfl, rfl⟩
    rw [hO]
    clear hO
    go_wp2
    go_ret
    rw [HL.out]
    exact ⟨none, 0, rfl, ownII_nil _ _ _ _, hb0⟩
end Go.Proofs.Ytkglgbdiakinlaa
