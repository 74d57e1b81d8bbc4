/- Contracts of the pairs that are missing and owed: the reference's side. -/
import Derived.Test.YtkglgbdiakinlaaMiss
import Derived.Test.YtkglgbdiakinlaaRepS
import Derived.Deep.QuietTactic
import Derived.BigQuiet
import Derived.Deep.RegionHeld3
namespace Go.Proofs.Ytkglgbdiakinlaa
open Go.ChangeShapes Go.WideShapes Go.ChangeAt Go.RowKit
theorem split_place {N q : Nat} (hN : 0 < N) (hq : q < N * N) : ∃ i k, q = i * N + k ∧ i < N ∧ k < N ∧ (q : Int).tdiv (N : Int) = i ∧ (q : Int).tmod (N : Int) = k := by
  refine ⟨q / N, q % N, ?_, ?_, Nat.mod_lt _ hN, ?_, ?_⟩
  · rw [Nat.mul_comm]; exact (Nat.div_add_mod q N).symm
  · exact Nat.div_lt_of_lt_mul hq
  · rw [Int.tdiv_eq_ediv_of_nonneg (by omega)]; rfl
  · rw [Int.tmod_eq_emod_of_nonneg (by omega)]; rfl
theorem quiet_sent0 (A : Option Addr) (l c : Nat) (z : Nat → List Int) (i : Nat) (x : Int) (d : Nat) (B : Nat) (w : World) (m : Nat) (h : RowII w B A l c z) (hd : d ≤ l) (hi : ∀ j, j < l → i < (z j).length) :
    Calls Try.prog 55 #[.slice A l c, .int .i64 i, .int .i64 x, .int .i64 0, .int .i64 d] (w.drewN m) fun e w' => e = .returned (.int .i64 (sentN z i x 0 d)) ∧ ∃ k, w' = w.drewN k :=
  Calls.quiet_of_same ((spec_sent0 A l c z i x d B _ (show RowII (w.drewN m) B A l c z from h) hd hi).mono fun _ _ ⟨a, b⟩ => ⟨a, b.symm⟩)
theorem spec_sentT (A : Option Addr) (l c : Nat) (z : Nat → List Int) (i : Nat) (x : Int) (f t : Nat) (B : Nat) (w : World) (h : RowII w B A l c z) (hf : f ≤ t) (ht : t ≤ l) (hi : ∀ j, j < l → i < (z j).length) :
    Calls Try.prog 55 #[.slice A l c, .int .i64 i, .int .i64 x, .int .i64 f, .int .i64 t] w fun e w' => e = .returned (.int .i64 (sentN z i x f (t - f))) ∧ w = w' := by
  have := spec_sent A l c z i x f (t - f) B w h (by omega) hi
  rwa [show (f : Int) + ((t - f : Nat) : Int) = (t : Int) by omega] at this
theorem quiet_sentT (A : Option Addr) (l c : Nat) (z : Nat → List Int) (i : Nat) (x : Int) (f t : Nat) (B : Nat) (w : World) (m : Nat) (h : RowII w B A l c z) (hf : f ≤ t) (ht : t ≤ l) (hi : ∀ j, j < l → i < (z j).length) :
    Calls Try.prog 55 #[.slice A l c, .int .i64 i, .int .i64 x, .int .i64 f, .int .i64 t] (w.drewN m) fun e w' => e = .returned (.int .i64 (sentN z i x f (t - f))) ∧ ∃ k, w' = w.drewN k :=
  Calls.quiet_of_same ((spec_sentT A l c z i x f t B _ (show RowII (w.drewN m) B A l c z from h) hf ht hi).mono fun _ _ ⟨a, b⟩ => ⟨a, b.symm⟩)
set_option maxHeartbeats 8000000 in
theorem spec_miss (n : Int) (A : Option Addr) (l c : Nat) (z : Nat → List Int) (B : Nat) (L : List (List Int)) (w : World) (h : RowII w B A l c z) (hB : B ≤ w.heap.size) (hL : Hid (L = missL n z l)) :
    Calls Try.prog 36 #[.int .i64 n, .slice A l c] w fun e w' => ∃ A2 c2, e = .returned (.slice A2 L.length c2) ∧ OwnII w' w.heap.size w'.heap.size (.slice A2 L.length c2) L.length (zOf L) ∧ Below w.heap.size w w' := by
  have hcap := h.cap
  unfold maxLen at hcap
  rcases Bool.eq_false_or_eq_true (plansOk n z l) with hO | hO
  · have hP := plan_of hO
    have n1 := hP.n1
    have n9 := hP.n9
    have l9 := hP.l9
    obtain ⟨N, rfl⟩ : ∃ N : Nat, n = N := ⟨n.toNat, by omega⟩
    have HL := Lib.hid (show L = pairsL N (missP z l) (N * N) by rw [hL.out]; unfold missL; rw [hO, if_pos rfl, Int.toNat_natCast])
    have HO := Lib.hid hO
    clear hO
    obtain ⟨P, hP2⟩ : ∃ P, P = pairsL N (missP z l) := ⟨_, rfl⟩
    have HL2 := Lib.hid (show L = P (N * N) by rw [hP2]; exact HL.out)
    have HP0 := Lib.hid (show P 0 = [] by rw [hP2]; rfl)
    have HPl := Lib.hid (fun q => (show (P q).length ≤ q by rw [hP2]; exact pairsL_len _ _ _))
    have HPy := Lib.hid (fun i k (hk : k < N) (e : (missP z l) i k = true) => (show P (i * N + k + 1) = P (i * N + k) ++ [[(i : Int), (k : Int)]] by rw [hP2]; exact pairsL_yes hk e))
    have HPn := Lib.hid (fun i k (hk : k < N) (e : (missP z l) i k = false) => (show P (i * N + k + 1) = P (i * N + k) by rw [hP2]; exact pairsL_no hk e))
    clear hP2
    have hsq := sq_bd (n := N) (by omega)
    have sq0 : (0 : Int) ≤ (N : Int) * (N : Int) := Int.mul_nonneg (by omega) (by omega)
    have sq1 : (N : Int) * (N : Int) ≤ 100 := by exact_mod_cast hsq
    have HX := Lib.hid hP.len
    go_enter Try.func36, Try.ntmps36
    go_wp2_with fail
    go_loopw [5, 6] (fun v ix wr => ∃ q : Nat, q ≤ N * N ∧ ix = .int .i64 q ∧ OwnII wr w.heap.size wr.heap.size v (P q).length (zOf (P q)) ∧ Below w.heap.size w wr) (fun _ ix _ => N * N - (intOf ix).toNat)
    case atStart => exact ⟨0, by omega, rfl, by rw [HP0.out]; exact (ownII_empty w _).more (by simp), (Below.refl _ _).alloc (Nat.le_refl _) _⟩
    case round =>
      obtain ⟨q, hq, rfl, hown, hb⟩ := hrel
      have h2 : RowII wr B A l c z := h.keep fun p hp => hb.cell (by omega)
      by_cases hlt : q < N * N
      · have d1 : (q : Int) < (N : Int) * (N : Int) := by exact_mod_cast hlt
        have q0 : (0 : Int) ≤ (q : Int) := by omega
        obtain ⟨i, k, hqe, hi, hk, e1, e2⟩ := split_place (N := N) (by omega) hlt
        have HQ := Lib.hid hqe
        have hq100 : q ≤ 100 := by omega
        clear hqe
        have i0 : (0 : Int) ≤ (i : Int) := by omega
        have i3 : (i : Int) < (N : Int) := by omega
        have k0 : (0 : Int) ≤ (k : Int) := by omega
        have k3 : (k : Int) < (N : Int) := by omega
        have nz : ((N : Int) == 0) = false := beq_eq_false_iff_ne.2 (by omega)
        have nz2 : (N == 0) = false := by simp; omega
        have nz3 : ¬ (N = 0) := by omega
        have w1 : IntKind.i64.wrap (i : Int) = (i : Int) := IntWalk.i64_in _ (by omega)
        have w2 : IntKind.i64.wrap (k : Int) = (k : Int) := IntWalk.i64_in _ (by omega)
        go_wp2_with fail
        refine (spec_plans N A l c z B _ h2).mono ?_
        rintro e w' ⟨rfl, rfl⟩
        rw [HO.out]
        have hlt2 := Lib.hid hlt
        clear h2 hlt
        by_cases hik : i = k
        · have a1 : (i == k) = true := by simpa using hik
          have a2 : (i != k) = false := by simp [bne, a1]
          have a3 : ((i : Int) == (k : Int)) = true := by simp [hik]
          have a4 : ((i : Int) != (k : Int)) = false := by simp [bne, a3]
          have HS := Lib.hid (show P (q + 1) = P q by rw [HQ.out]; exact HPn.out i k hk (by unfold missP; rw [a1]; rfl))
          rw [← HS.out] at hown
          clear hik
          go_wp2_with fail
          go_quiet (fail)
          go_wp2
          go_roundw
          case rel => exact ⟨q + 1, by omega, by go_num, hown, ⟨hb.os, hb.tape, hb.output, hb.size, hb.block⟩⟩
          case measure => simp [intOf]; omega
        · have a1 : (i == k) = false := by simpa using hik
          have a2 : (i != k) = true := by simp [bne, a1]
          have a3 : ((i : Int) == (k : Int)) = false := by simp; omega
          have a4 : ((i : Int) != (k : Int)) = true := by simp [bne, a3]
          have h2 : RowII wr B A l c z := h.keep fun p hp => hb.cell (by omega)
          have hbw := hb.size
          have HR := Lib.hid (show missP z l i k = !sent z i k l by unfold missP; rw [a1]; rfl)
          have e5 := sentN_zero z i k l
          have HI := Lib.hid (fun j (hj : j < l) => (show i < (z j).length by have := HX.out j hj; omega))
          rcases Bool.eq_false_or_eq_true (sent z i k l) with s | s
          · rw [s] at e5
            have HS := Lib.hid (show P (q + 1) = P q by rw [HQ.out]; exact HPn.out i k hk (by rw [HR.out, s]; rfl))
            rw [← HS.out] at hown
            clear hik s
            go_wp2_with fail
            go_quiet ((go_at_call 55; with_reducible exact quiet_sent0 A l c z i k l B _ _ h2 (Nat.le_refl _) HI.out))
            go_wp2
            go_roundw
            case rel => exact ⟨q + 1, by omega, by go_num, hown, ⟨hb.os, hb.tape, hb.output, hb.size, hb.block⟩⟩
            case measure => simp [intOf]; omega
          · rw [s] at e5
            have HS := Lib.hid (show P (q + 1) = P q ++ [[(i : Int), (k : Int)]] by rw [HQ.out]; exact HPy.out i k hk (by rw [HR.out, s]; rfl))
            clear hik s
            go_wp2_with fail
            go_quiet ((go_at_call 55; with_reducible exact quiet_sent0 A l c z i k l B _ _ h2 (Nat.le_refl _) HI.out))
            rename_i nq
            have hlen := HPl.out q
            have hown2 := hown.congr (z' := zOf (P q ++ [[(i : Int), (k : Int)]])) (fun j hj => (zOf_l hj).symm)
            clear hown
            have hrow : OwnI (wr.alloc (.cells #[.int .i64 i, .int .i64 k] 3)) wr.heap.size (.slice (some ⟨wr.heap.size, 0, none⟩) 2 2) (zOf (P q ++ [[(i : Int), (k : Int)]]) (P q).length) := by rw [zOf_r]; exact own_two wr _ _
            go_wp2_with fail
            go_region_held3 (fun _ => True) (first | go_keep | (exact trivial)) (((refine appII_drawn rfl _ _ rfl w.heap.size wr.heap.size (P q).length _ _ (zOf (P q ++ [[(i : Int), (k : Int)]])) (wr.heap.size + 1) rfl (ownII_alloc (ownII_alloc hown2 _) _) (hrow.alloc _) hbw rfl (by simpa using heap_alloc_new ((wr.drewN (nq + 1)).alloc (.cells #[.int .i64 i, .int .i64 k] 3)) _) (by omega) (by simp; omega) ?_; intro v4 w4 ho4 hb4)))
            have e5 : (P q).length + 1 = (P (q + 1)).length := by rw [HS.out]; simp
            rw [← HS.out, e5] at ho4
            have hb9 : Below w.heap.size w (wr.drewN (nq + 1)) := ⟨hb.os, hb.tape, hb.output, hb.size, hb.block⟩
            have hb5 := ((hb9.alloc hbw (.cells #[.int .i64 i, .int .i64 k] 3)).alloc (by simp; omega) _).trans hb4
            clear hb4 hown2 hrow hlen e5
            go_wp2
            go_roundw
            case rel => exact ⟨q + 1, by omega, by go_num, ho4, hb5⟩
            case measure => simp [intOf]; omega
      · have d1 : ¬ (q : Int) < (N : Int) * (N : Int) := by have : N * N ≤ q := by omega
                                                            intro h; have h2 : q < N * N := by exact_mod_cast h
                                                            omega
        have HE := Lib.hid (show P q = L by rw [HL2.out, show q = N * N by omega])
        rw [HE.out] at hown
        obtain ⟨A2, c2, hv⟩ := hown.shape
        have HV := Lib.hid hv
        clear hv h2
        go_wp2
        go_ret
        rw [HV.out] at hown
        exact ⟨A2, c2, by rw [HV.out]; rfl, hown, hb⟩
  · have HL := Lib.hid (show L = [] by rw [hL.out]; unfold missL; rw [hO]; rfl)
    have h2 : RowII (w.alloc (.cells #[] 27)) B A l c z := h.keep fun p hp => ((Below.refl _ _).alloc (Nat.le_refl _) _).cell (by omega)
    have HO := Lib.hid hO
    clear hO
    go_enter Try.func36, Try.ntmps36
    go_wp2_with fail
    refine wp_loop_rounds 1 ?_
    rw [rounds_succ]
    go_wp2_with (go_at_call 54; refine (spec_plans n A l c z B _ h2).mono ?_; rintro e w' ⟨rfl, rfl⟩; rw [HO.out])
    all_goals go_ret
    all_goals rw [HL.out]
    all_goals exact ⟨_, _, rfl, (ownII_empty w _).more (by simp), (Below.refl _ _).alloc (Nat.le_refl _) _⟩
set_option maxHeartbeats 8000000 in
theorem spec_owed (n : Int) (A : Option Addr) (l c : Nat) (z : Nat → List Int) (d : Int) (B : Nat) (L : List (List Int)) (w : World) (h : RowII w B A l c z) (hB : B ≤ w.heap.size) (hL : Hid (L = owedL n z l d)) :
    Calls Try.prog 38 #[.int .i64 n, .slice A l c, .int .i64 d] w fun e w' => ∃ A2 c2, e = .returned (.slice A2 L.length c2) ∧ OwnII w' w.heap.size w'.heap.size (.slice A2 L.length c2) L.length (zOf L) ∧ Below w.heap.size w w' := by
  have hcap := h.cap
  unfold maxLen at hcap
  rcases Bool.eq_false_or_eq_true (plansOk n z l) with hO | hO
  · have hP := plan_of hO
    have n1 := hP.n1
    have n9 := hP.n9
    have l9 := hP.l9
    obtain ⟨N, rfl⟩ : ∃ N : Nat, n = N := ⟨n.toNat, by omega⟩
    rcases inB_or d 0 l with ⟨hI, d0, dl⟩ | hI
    rotate_left
    · have HL := Lib.hid (show L = [] by rw [hL.out]; unfold owedL; rw [hI, Bool.and_false]; rfl)
      have h2 : RowII (w.alloc (.cells #[] 27)) B A l c z := h.keep fun p hp => ((Below.refl _ _).alloc (Nat.le_refl _) _).cell (by omega)
      have HO := Lib.hid hO
      clear hO
      go_enter Try.func38, Try.ntmps38
      go_wp2_with fail
      refine (spec_plans N A l c z B _ h2).mono ?_
      rintro e w' ⟨rfl, rfl⟩
      rw [HO.out]
      go_wp2_with (go_at_call 50; refine (l01In_any _ _ _ _).mono ?_; rintro e w' ⟨rfl, rfl⟩)
      go_ret
      rw [HL.out]
      exact ⟨_, _, rfl, (ownII_empty w _).more (by simp), (Below.refl _ _).alloc (Nat.le_refl _) _⟩
    obtain ⟨D, rfl⟩ : ∃ D : Nat, d = D := ⟨d.toNat, by omega⟩
    have HL := Lib.hid (show L = pairsL N (owedP z l D) (N * N) by rw [hL.out]; unfold owedL; rw [hO, hI, Bool.and_self, if_pos rfl, Int.toNat_natCast, Int.toNat_natCast])
    have HO := Lib.hid hO
    clear hO
    obtain ⟨P, hP2⟩ : ∃ P, P = pairsL N (owedP z l D) := ⟨_, rfl⟩
    have HL2 := Lib.hid (show L = P (N * N) by rw [hP2]; exact HL.out)
    have HP0 := Lib.hid (show P 0 = [] by rw [hP2]; rfl)
    have HPl := Lib.hid (fun q => (show (P q).length ≤ q by rw [hP2]; exact pairsL_len _ _ _))
    have HPy := Lib.hid (fun i k (hk : k < N) (e : (owedP z l D) i k = true) => (show P (i * N + k + 1) = P (i * N + k) ++ [[(i : Int), (k : Int)]] by rw [hP2]; exact pairsL_yes hk e))
    have HPn := Lib.hid (fun i k (hk : k < N) (e : (owedP z l D) i k = false) => (show P (i * N + k + 1) = P (i * N + k) by rw [hP2]; exact pairsL_no hk e))
    clear hP2
    have hsq := sq_bd (n := N) (by omega)
    have sq0 : (0 : Int) ≤ (N : Int) * (N : Int) := Int.mul_nonneg (by omega) (by omega)
    have sq1 : (N : Int) * (N : Int) ≤ 100 := by exact_mod_cast hsq
    have HX := Lib.hid hP.len
    have h2 : RowII (w.alloc (.cells #[] 27)) B A l c z := h.keep fun p hp => ((Below.refl _ _).alloc (Nat.le_refl _) _).cell (by omega)
    go_enter Try.func38, Try.ntmps38
    go_wp2_with fail
    refine (spec_plans N A l c z B _ h2).mono ?_
    rintro e w' ⟨rfl, rfl⟩
    rw [HO.out]
    go_wp2_with (go_at_call 50; refine (l01In_any _ _ _ _).mono ?_; rintro e w' ⟨rfl, rfl⟩)
    clear h2 hI
    go_loopw [7, 8] (fun v ix wr => ∃ q : Nat, q ≤ N * N ∧ ix = .int .i64 q ∧ OwnII wr w.heap.size wr.heap.size v (P q).length (zOf (P q)) ∧ Below w.heap.size w wr) (fun _ ix _ => N * N - (intOf ix).toNat)
    case atStart => exact ⟨0, by omega, rfl, by rw [HP0.out]; exact (ownII_empty w _).more (by simp), (Below.refl _ _).alloc (Nat.le_refl _) _⟩
    case round =>
      obtain ⟨q, hq, rfl, hown, hb⟩ := hrel
      have h2 : RowII wr B A l c z := h.keep fun p hp => hb.cell (by omega)
      by_cases hlt : q < N * N
      · have d1 : (q : Int) < (N : Int) * (N : Int) := by exact_mod_cast hlt
        have q0 : (0 : Int) ≤ (q : Int) := by omega
        obtain ⟨i, k, hqe, hi, hk, e1, e2⟩ := split_place (N := N) (by omega) hlt
        have HQ := Lib.hid hqe
        have hq100 : q ≤ 100 := by omega
        clear hqe
        have i0 : (0 : Int) ≤ (i : Int) := by omega
        have i3 : (i : Int) < (N : Int) := by omega
        have k0 : (0 : Int) ≤ (k : Int) := by omega
        have k3 : (k : Int) < (N : Int) := by omega
        have nz : ((N : Int) == 0) = false := beq_eq_false_iff_ne.2 (by omega)
        have nz2 : (N == 0) = false := by simp; omega
        have nz3 : ¬ (N = 0) := by omega
        have w1 : IntKind.i64.wrap (i : Int) = (i : Int) := IntWalk.i64_in _ (by omega)
        have w2 : IntKind.i64.wrap (k : Int) = (k : Int) := IntWalk.i64_in _ (by omega)
        have hlt2 := Lib.hid hlt
        clear h2 hlt
        by_cases hik : i = k
        · have a1 : (i == k) = true := by simpa using hik
          have a2 : (i != k) = false := by simp [bne, a1]
          have a3 : ((i : Int) == (k : Int)) = true := by simp [hik]
          have a4 : ((i : Int) != (k : Int)) = false := by simp [bne, a3]
          have HS := Lib.hid (show P (q + 1) = P q by rw [HQ.out]; exact HPn.out i k hk (by unfold owedP; rw [a1]; rfl))
          rw [← HS.out] at hown
          clear hik
          go_wp2_with fail
          go_quiet (fail)
          go_wp2
          go_roundw
          case rel => exact ⟨q + 1, by omega, by go_num, hown, ⟨hb.os, hb.tape, hb.output, hb.size, hb.block⟩⟩
          case measure => simp [intOf]; omega
        · have a1 : (i == k) = false := by simpa using hik
          have a2 : (i != k) = true := by simp [bne, a1]
          have a3 : ((i : Int) == (k : Int)) = false := by simp; omega
          have a4 : ((i : Int) != (k : Int)) = true := by simp [bne, a3]
          have h2 : RowII wr B A l c z := h.keep fun p hp => hb.cell (by omega)
          have hbw := hb.size
          have HR := Lib.hid (show owedP z l D i k = (sent z i k l && !sent z i k D) by unfold owedP; rw [a1]; rfl)
          have e5 := sentN_zero z i k D
          have HDl : D ≤ l := by omega
          have e6 := sent_split z i k D (l - D)
          rw [show D + (l - D) = l by omega] at e6
          have HI := Lib.hid (fun j (hj : j < l) => (show i < (z j).length by have := HX.out j hj; omega))
          clear hik
          rcases Bool.eq_false_or_eq_true (sent z i k D) with s | s
          · have HS := Lib.hid (show P (q + 1) = P q by rw [HQ.out]; exact HPn.out i k hk (by rw [HR.out, s, Bool.not_true, Bool.and_false]))
            rw [s] at e5
            rw [← HS.out] at hown
            clear s e6
            go_wp2_with fail
            go_quiet ((first | (go_at_call 55; with_reducible exact quiet_sent0 A l c z i k D B _ _ h2 HDl HI.out) | (go_at_call 55; with_reducible exact quiet_sentT A l c z i k D l B _ _ h2 HDl (Nat.le_refl _) HI.out)))
            go_wp2
            go_roundw
            case rel => exact ⟨q + 1, by omega, by go_num, hown, ⟨hb.os, hb.tape, hb.output, hb.size, hb.block⟩⟩
            case measure => simp [intOf]; omega
          rw [s, Bool.false_or] at e6
          rw [s] at e5
          rcases Bool.eq_false_or_eq_true (sent z i k l) with s2 | s2
          rotate_left
          · have HS := Lib.hid (show P (q + 1) = P q by rw [HQ.out]; exact HPn.out i k hk (by rw [HR.out, s2]; rfl))
            rw [s2] at e6
            have e7 := e6.symm
            rw [← HS.out] at hown
            clear s s2 e6
            go_wp2_with fail
            go_quiet ((first | (go_at_call 55; with_reducible exact quiet_sent0 A l c z i k D B _ _ h2 HDl HI.out) | (go_at_call 55; with_reducible exact quiet_sentT A l c z i k D l B _ _ h2 HDl (Nat.le_refl _) HI.out)))
            go_wp2
            go_roundw
            case rel => exact ⟨q + 1, by omega, by go_num, hown, ⟨hb.os, hb.tape, hb.output, hb.size, hb.block⟩⟩
            case measure => simp [intOf]; omega
          · have HS := Lib.hid (show P (q + 1) = P q ++ [[(i : Int), (k : Int)]] by rw [HQ.out]; exact HPy.out i k hk (by rw [HR.out, s, s2]; rfl))
            rw [s2] at e6
            have e7 := of_decide_eq_true e6.symm
            clear s s2 e6
            go_wp2_with fail
            go_quiet ((first | (go_at_call 55; with_reducible exact quiet_sent0 A l c z i k D B _ _ h2 HDl HI.out) | (go_at_call 55; with_reducible exact quiet_sentT A l c z i k D l B _ _ h2 HDl (Nat.le_refl _) HI.out)))
            rename_i nq
            have hlen := HPl.out q
            have hown2 := hown.congr (z' := zOf (P q ++ [[(i : Int), (k : Int)]])) (fun j hj => (zOf_l hj).symm)
            clear hown
            have hrow : OwnI (wr.alloc (.cells #[.int .i64 i, .int .i64 k] 3)) wr.heap.size (.slice (some ⟨wr.heap.size, 0, none⟩) 2 2) (zOf (P q ++ [[(i : Int), (k : Int)]]) (P q).length) := by rw [zOf_r]; exact own_two wr _ _
            go_wp2_with fail
            go_region_held3 (fun _ => True) (first | go_keep | (exact trivial)) (((refine appII_drawn rfl _ _ rfl w.heap.size wr.heap.size (P q).length _ _ (zOf (P q ++ [[(i : Int), (k : Int)]])) (wr.heap.size + 1) rfl (ownII_alloc (ownII_alloc hown2 _) _) (hrow.alloc _) hbw rfl (by simpa using heap_alloc_new ((wr.drewN (nq + 1)).alloc (.cells #[.int .i64 i, .int .i64 k] 3)) _) (by omega) (by simp; omega) ?_; intro v4 w4 ho4 hb4)))
            have e5 : (P q).length + 1 = (P (q + 1)).length := by rw [HS.out]; simp
            rw [← HS.out, e5] at ho4
            have hb9 : Below w.heap.size w (wr.drewN (nq + 1)) := ⟨hb.os, hb.tape, hb.output, hb.size, hb.block⟩
            have hb5 := ((hb9.alloc hbw (.cells #[.int .i64 i, .int .i64 k] 3)).alloc (by simp; omega) _).trans hb4
            clear hb4 hown2 hrow hlen e5
            go_wp2
            go_roundw
            case rel => exact ⟨q + 1, by omega, by go_num, ho4, hb5⟩
            case measure => simp [intOf]; omega
      · have d1 : ¬ (q : Int) < (N : Int) * (N : Int) := by have : N * N ≤ q := by omega
                                                            intro h; have h2 : q < N * N := by exact_mod_cast h
                                                            omega
        have HE := Lib.hid (show P q = L by rw [HL2.out, show q = N * N by omega])
        rw [HE.out] at hown
        obtain ⟨A2, c2, hv⟩ := hown.shape
        have HV := Lib.hid hv
        clear hv h2
        go_wp2
        go_ret
        rw [HV.out] at hown
        exact ⟨A2, c2, by rw [HV.out]; rfl, hown, hb⟩
  · have HL := Lib.hid (show L = [] by rw [hL.out]; unfold owedL; rw [hO]; rfl)
    have h2 : RowII (w.alloc (.cells #[] 27)) B A l c z := h.keep fun p hp => ((Below.refl _ _).alloc (Nat.le_refl _) _).cell (by omega)
    go_enter Try.func38, Try.ntmps38
    go_wp2_with fail
    refine (spec_plans n A l c z B _ h2).mono ?_
    rintro e w' ⟨rfl, rfl⟩
    rw [hO]
    clear hO
    go_wp2
    go_ret
    rw [HL.out]
    exact ⟨_, _, rfl, (ownII_empty w _).more (by simp), (Below.refl _ _).alloc (Nat.le_refl _) _⟩
end Go.Proofs.Ytkglgbdiakinlaa
