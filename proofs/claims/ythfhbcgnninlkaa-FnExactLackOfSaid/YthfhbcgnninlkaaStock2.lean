/- Contracts of LackOf, TimesEnough, EnoughFor: the program's and the reference's. -/
import Derived.Test.YthfhbcgnninlkaaApp
import Derived.Test.YthfhbcgnninlkaaStock
namespace Go.Proofs.Ythfhbcgnninlkaa
open Go.ChangeShapes Go.WideShapes Go.ChangeAt Go.RowKit
theorem max_if (x : Int) : max x 0 = if x < 0 then 0 else x := by omega
theorem max_if' (a b : Int) : max (b - a) 0 = if a < b then b - a else 0 := by omega
set_option maxHeartbeats 2000000 in
theorem impl_lackOf (A A' : Option Addr) (n m c c' : Nat) (s d R : List Int) (B B' : Nat) (w : World) (h : RowI .i64 w B A n c s) (h' : RowI .i64 w B' A' m c' d) (hB : B ≤ w.heap.size) (hB' : B' ≤ w.heap.size) (hR : Hid (R = lackOf s d n m)) :
    Calls Try.prog 29 #[.slice A n c, .slice A' m c'] w fun e w' => ∃ A2 c2, e = .returned (.slice A2 R.length c2) ∧ OwnI w' w.heap.size (.slice A2 R.length c2) R ∧ Below w.heap.size w w' := by
  rcases Bool.eq_false_or_eq_true (okList s n 0 1000000) with hS | hS
  · rcases Bool.eq_false_or_eq_true (okList d m 0 1000000) with hD | hD
    · obtain ⟨hn, hs⟩ := okList_t hS h.len
      obtain ⟨hm, hd⟩ := okList_t hD h'.len
      subst hn hm
      have HR : Hid (R = lacks s d 6) := by
        have : lackOf s d 6 6 = lacks s d 6 := by simp [lackOf, hS, hD]
        rw [this] at hR
        exact hR
      clear hR
      go_enter Try.func29, Try.ntmps29
      go_wp2_with (first | (go_at_call 20; ((with_reducible refine (impl_stockOk A 6 c s B _ h).mono ?_); rintro e w' ⟨rfl, rfl⟩)) | (go_at_call 20; ((with_reducible refine (impl_stockOk A' 6 c' d B' _ h').mono ?_); rintro e w' ⟨rfl, rfl⟩)))
      go_loopw [5, 6, 18] (fun v _ i wr => ∃ k : Nat, k ≤ 6 ∧ i = .int .i64 k ∧ OwnI wr w.heap.size v (lacks s d k) ∧ Below w.heap.size w wr) (fun _ _ i _ => 6 - (intOf i).toNat)
      case atStart => exact ⟨0, by omega, rfl, own_empty w, (Below.refl _ _).alloc (Nat.le_refl _) _⟩
      case round =>
        obtain ⟨k, hk, rfl, hown, hb⟩ := hrel
        by_cases hlt : k < 6
        · obtain ⟨b1, o1, rfl, hb1, hc1⟩ := h.at_ hlt
          obtain ⟨b2, o2, rfl, hb2, hc2⟩ := h'.at_ hlt
          have hk1 := (hb.cell (p := ⟨b1, o1 + k, none⟩) (by exact Nat.lt_of_lt_of_le hb1 hB)).trans hc1
          have hk2 := (hb.cell (p := ⟨b2, o2 + k, none⟩) (by exact Nat.lt_of_lt_of_le hb2 hB')).trans hc2
          have hs1 := hs k hlt
          have hd1 := hd k hlt
          have i0 : (0 : Int) ≤ (k : Int) := by omega
          have i1 : (k : Int) < 6 := by omega
          have l1 : b1 < w.heap.size := by omega
          have l2 : b2 < w.heap.size := by omega
          have ew : IntKind.i64.wrap (nth d k - nth s k) = nth d k - nth s k := IntWalk.i64_in _ (by omega)
          go_wp2_with fail
          go_region_held3 (fun w' => w'.cell? ⟨b1, o1 + k, none⟩ = some (.int .i64 (nth s k)) ∧ w'.cell? ⟨b2, o2 + k, none⟩ = some (.int .i64 (nth d k))) (first | go_keep | (exact ⟨(hb6.cell l1).trans hc1, (hb6.cell l2).trans hc2⟩)) ((refine app_drawn (by rfl) _ _ (by rfl) w.heap.size _ (lacks s d k) (if nth d k - nth s k < 0 then 0 else nth d k - nth s k) wr.heap.size (by rfl) ((hown.alloc _).drew) (by rfl) (heap_alloc_new wr _) (by rw [lacks_len]; omega) (by have := hb.size; simp; omega) ?_; intro v4 w4 hown4 hb4; have hb6 : Below w.heap.size w w4 := ((hb.alloc hb.size _).drew).trans hb4))
          rw [← max_if, ← lacks_snoc] at hown4
          clear hown hb hb4 hk1 hk2 ew
          go_wp2
          go_roundw
          case rel => exact ⟨k + 1, by omega, by go_num, hown4, hb6⟩
          case measure => simp [intOf]; omega
        · obtain rfl : k = 6 := by omega
          obtain ⟨A2, c2, hv⟩ := hown.shape
          rw [← HR.out] at hv hown
          go_wp2
          go_ret
          rw [hv] at hown
          exact ⟨A2, c2, by rw [hv]; rfl, hown, hb⟩
    · have HR : Hid (R = []) := by
        have : lackOf s d n m = [] := by simp [lackOf, hS, hD]
        rw [this] at hR
        exact hR
      clear hR
      go_enter Try.func29, Try.ntmps29
      go_wp2_with (first | (go_at_call 20; ((with_reducible refine (impl_stockOk A n c s B _ h).mono ?_); rintro e w' ⟨rfl, rfl⟩)) | (go_at_call 20; ((with_reducible refine (impl_stockOk A' m c' d B' _ h').mono ?_); rintro e w' ⟨rfl, rfl⟩)))
      go_ret
      rw [HR.out]
      exact ⟨none, 0, rfl, own_nil _ _, Below.refl _ _⟩
  · have HR : Hid (R = []) := by
      have : lackOf s d n m = [] := by simp [lackOf, hS]
      rw [this] at hR
      exact hR
    clear hR
    go_enter Try.func29, Try.ntmps29
    go_wp2_with (first | (go_at_call 20; ((with_reducible refine (impl_stockOk A n c s B _ h).mono ?_); rintro e w' ⟨rfl, rfl⟩)) | (go_at_call 20; ((with_reducible refine (impl_stockOk A' m c' d B' _ h').mono ?_); rintro e w' ⟨rfl, rfl⟩)))
    go_ret
    rw [HR.out]
    exact ⟨none, 0, rfl, own_nil _ _, Below.refl _ _⟩
set_option maxHeartbeats 2000000 in
theorem spec_lackOf (A A' : Option Addr) (n m c c' : Nat) (s d R : List Int) (B B' : Nat) (w : World) (h : RowI .i64 w B A n c s) (h' : RowI .i64 w B' A' m c' d) (hB : B ≤ w.heap.size) (hB' : B' ≤ w.heap.size) (hR : Hid (R = lackOf s d n m)) :
    Calls Try.prog 28 #[.slice A n c, .slice A' m c'] w fun e w' => ∃ A2 c2, e = .returned (.slice A2 R.length c2) ∧ OwnI w' w.heap.size (.slice A2 R.length c2) R ∧ Below w.heap.size w w' := by
  rcases Bool.eq_false_or_eq_true (okList s n 0 1000000 && okList d m 0 1000000) with hO | hO
  · obtain ⟨hS, hD⟩ : okList s n 0 1000000 = true ∧ okList d m 0 1000000 = true := by simpa using hO
    obtain ⟨hn, hs⟩ := okList_t hS h.len
    obtain ⟨hm, hd⟩ := okList_t hD h'.len
    subst hn hm
    have HR : Hid (R = lacks s d 6) := by
      have : lackOf s d 6 6 = lacks s d 6 := by simp [lackOf, hS, hD]
      rw [this] at hR
      exact hR
    clear hR
    go_enter Try.func28, Try.ntmps28
    go_wp2_with fail
    go_loopw [5, 6] (fun v i wr => ∃ k : Nat, k ≤ 6 ∧ i = .int .i64 k ∧ OwnI wr w.heap.size v (lacks s d k) ∧ Below w.heap.size w wr) (fun _ i _ => 6 - (intOf i).toNat)
    case atStart => exact ⟨0, by omega, rfl, own_empty w, (Below.refl _ _).alloc (Nat.le_refl _) _⟩
    case round =>
      obtain ⟨k, hk, rfl, hown, hb⟩ := hrel
      by_cases hlt : k < 6
      · have hr1 : RowI .i64 wr B A 6 c s := h.keep fun p hp => hb.cell (by omega)
        have hr2 : RowI .i64 wr B' A' 6 c' d := h'.keep fun p hp => hb.cell (by omega)
        obtain ⟨b1, o1, rfl, hb1, hc1⟩ := h.at_ hlt
        obtain ⟨b2, o2, rfl, hb2, hc2⟩ := h'.at_ hlt
        have hk1 := (hb.cell (p := ⟨b1, o1 + k, none⟩) (by exact Nat.lt_of_lt_of_le hb1 hB)).trans hc1
        have hk2 := (hb.cell (p := ⟨b2, o2 + k, none⟩) (by exact Nat.lt_of_lt_of_le hb2 hB')).trans hc2
        have hs1 := hs k hlt
        have hd1 := hd k hlt
        have i0 : (0 : Int) ≤ (k : Int) := by omega
        have i1 : (k : Int) < 6 := by omega
        have l1 : b1 < w.heap.size := by omega
        have l2 : b2 < w.heap.size := by omega
        have ew : IntKind.i64.wrap (nth d k - nth s k) = nth d k - nth s k := IntWalk.i64_in _ (by omega)
        go_wp2_with (first | (go_at_call 19; ((with_reducible refine (spec_stockOk (some ⟨b1, o1, none⟩) 6 c s B _ hr1).mono ?_); rintro e w' ⟨rfl, rfl⟩)) | (go_at_call 19; ((with_reducible refine (spec_stockOk (some ⟨b2, o2, none⟩) 6 c' d B' _ hr2).mono ?_); rintro e w' ⟨rfl, rfl⟩)))
        go_region_held3 (fun w' => w'.cell? ⟨b1, o1 + k, none⟩ = some (.int .i64 (nth s k)) ∧ w'.cell? ⟨b2, o2 + k, none⟩ = some (.int .i64 (nth d k))) (first | go_keep | (exact ⟨(hb6.cell l1).trans hc1, (hb6.cell l2).trans hc2⟩)) ((refine app_drawn (by rfl) _ _ (by rfl) w.heap.size _ (lacks s d k) (if nth s k < nth d k then nth d k - nth s k else 0) wr.heap.size (by rfl) ((hown.alloc _).drew) (by rfl) (heap_alloc_new wr _) (by rw [lacks_len]; omega) (by have := hb.size; simp; omega) ?_; intro v4 w4 hown4 hb4; have hb6 : Below w.heap.size w w4 := ((hb.alloc hb.size _).drew).trans hb4))
        rw [← max_if', ← lacks_snoc] at hown4
        clear hown hb hb4 hk1 hk2 ew hr1 hr2
        go_wp2
        go_roundw
        case rel => exact ⟨k + 1, by omega, by go_num, hown4, hb6⟩
        case measure => simp [intOf]; omega
      · obtain rfl : k = 6 := by omega
        obtain ⟨A2, c2, hv⟩ := hown.shape
        rw [← HR.out] at hv hown
        go_wp2
        go_ret
        rw [hv] at hown
        exact ⟨A2, c2, by rw [hv]; rfl, hown, hb⟩
  · have HR : Hid (R = []) := by
      have : lackOf s d n m = [] := by simp only [lackOf, hO]; rfl
      rw [this] at hR
      exact hR
    clear hR
    have hr1 : RowI .i64 (w.alloc (.cells #[] 3)) B A n c s := h.keep fun p hp => World.cell?_alloc_lt _ _ _ (by omega)
    have hr2 : RowI .i64 (w.alloc (.cells #[] 3)) B' A' m c' d := h'.keep fun p hp => World.cell?_alloc_lt _ _ _ (by omega)
    rcases Bool.eq_false_or_eq_true (okList s n 0 1000000) with hS | hS
    · have hD : okList d m 0 1000000 = false := by simpa [hS] using hO
      go_enter Try.func28, Try.ntmps28
      go_wp2_with fail
      refine wp_loop_rounds 1 ?_
      rw [rounds_succ]
      go_wp2_with (first | (go_at_call 19; ((with_reducible refine (spec_stockOk A n c s B _ hr1).mono ?_); rintro e w' ⟨rfl, rfl⟩)) | (go_at_call 19; ((with_reducible refine (spec_stockOk A' m c' d B' _ hr2).mono ?_); rintro e w' ⟨rfl, rfl⟩)))
      go_ret
      rw [HR.out]
      exact ⟨_, 0, rfl, own_empty w, (Below.refl _ _).alloc (Nat.le_refl _) _⟩
    · go_enter Try.func28, Try.ntmps28
      go_wp2_with fail
      refine wp_loop_rounds 1 ?_
      rw [rounds_succ]
      go_wp2_with (first | (go_at_call 19; ((with_reducible refine (spec_stockOk A n c s B _ hr1).mono ?_); rintro e w' ⟨rfl, rfl⟩)) | (go_at_call 19; ((with_reducible refine (spec_stockOk A' m c' d B' _ hr2).mono ?_); rintro e w' ⟨rfl, rfl⟩)))
      go_ret
      rw [HR.out]
      exact ⟨_, 0, rfl, own_empty w, (Below.refl _ _).alloc (Nat.le_refl _) _⟩
set_option maxHeartbeats 2000000 in
theorem impl_times (A A' : Option Addr) (n m c c' : Nat) (s d : List Int) (B B' : Nat) (w : World) (h : RowI .i64 w B A n c s) (h' : RowI .i64 w B' A' m c' d) (hB : B ≤ w.heap.size) (hB' : B' ≤ w.heap.size) :
    Calls Try.prog 25 #[.slice A n c, .slice A' m c'] w fun e w' => e = .returned (.int .i64 (timesEnough s d n m)) ∧ Below w.heap.size w w' := by
  rcases Bool.eq_false_or_eq_true (okList s n 0 1000000) with hS | hS
  · rcases Bool.eq_false_or_eq_true (okList d m 0 1000000) with hD | hD
    · obtain ⟨hn, hs⟩ := okList_t hS h.len
      obtain ⟨hm, hd⟩ := okList_t hD h'.len
      subst hn hm
      have HE := Lib.hid (show timesEnough s d 6 6 = timesTo s d 6 by simp [timesEnough, hS, hD])
      go_enter Try.func25, Try.ntmps25
      go_wp2_with (first | (go_at_call 20; ((with_reducible refine (impl_stockOk A 6 c s B _ h).mono ?_); rintro e w' ⟨rfl, rfl⟩)) | (go_at_call 20; ((with_reducible refine (impl_stockOk A' 6 c' d B' _ h').mono ?_); rintro e w' ⟨rfl, rfl⟩)))
      go_loopw [5, 6, 7, 18] (fun v _ _ i wr => ∃ k : Nat, k ≤ 6 ∧ i = .int .i64 k ∧ v = .int .i64 (timesTo s d k) ∧ Below w.heap.size w wr) (fun _ _ _ i _ => 6 - (intOf i).toNat)
      case atStart => exact ⟨0, by omega, rfl, rfl, Below.refl _ _⟩
      case round =>
        obtain ⟨k, hk, rfl, rfl, hb⟩ := hrel
        have ht := timesTo_bd s d (fun i hi => (hs i hi).1) k hk
        by_cases hlt : k < 6
        · obtain ⟨b1, o1, rfl, hb1, hc1⟩ := h.at_ hlt
          obtain ⟨b2, o2, rfl, hb2, hc2⟩ := h'.at_ hlt
          have hk1 := (hb.cell (p := ⟨b1, o1 + k, none⟩) (by exact Nat.lt_of_lt_of_le hb1 hB)).trans hc1
          have hk2 := (hb.cell (p := ⟨b2, o2 + k, none⟩) (by exact Nat.lt_of_lt_of_le hb2 hB')).trans hc2
          have hs1 := hs k hlt
          have hd1 := hd k hlt
          have i0 : (0 : Int) ≤ (k : Int) := by omega
          have i1 : (k : Int) < 6 := by omega
          clear hc1 hc2
          rcases (by omega : nth d k ≤ 0 ∨ 1 ≤ nth d k) with hp | hp
          · have HS := Lib.hid (show timesTo s d (k + 1) = timesTo s d k by simp only [timesTo]; rw [if_neg (by omega)])
            go_wp2
            go_roundw
            case rel => exact ⟨k + 1, by omega, by go_num, by rw [HS.out], hb⟩
            case measure => simp [intOf]; omega
          · have HS := Lib.hid (show timesTo s d (k + 1) = min (timesTo s d k) (nth s k / nth d k) by simp only [timesTo]; rw [if_pos (by omega)])
            go_wp2
            all_goals go_roundw
            all_goals first | (case rel => refine ⟨k + 1, by omega, by go_num, ?_, hb⟩; rw [HS.out]; congr 1; omega) | skip
            all_goals (simp [intOf]; omega)
        · obtain rfl : k = 6 := by omega
          go_wp2
          go_ret
          exact ⟨ret_int HE.out.symm, hb⟩
    · go_enter Try.func25, Try.ntmps25
      go_wp2_with (first | (go_at_call 20; ((with_reducible refine (impl_stockOk A n c s B _ h).mono ?_); rintro e w' ⟨rfl, rfl⟩)) | (go_at_call 20; ((with_reducible refine (impl_stockOk A' m c' d B' _ h').mono ?_); rintro e w' ⟨rfl, rfl⟩)))
      go_ret
      exact ⟨ret_int (by simp [timesEnough, hS, hD]), Below.refl _ _⟩
  · go_enter Try.func25, Try.ntmps25
    go_wp2_with (first | (go_at_call 20; ((with_reducible refine (impl_stockOk A n c s B _ h).mono ?_); rintro e w' ⟨rfl, rfl⟩)) | (go_at_call 20; ((with_reducible refine (impl_stockOk A' m c' d B' _ h').mono ?_); rintro e w' ⟨rfl, rfl⟩)))
    go_ret
    exact ⟨ret_int (by simp [timesEnough, hS]), Below.refl _ _⟩
set_option maxHeartbeats 2000000 in
theorem spec_times (A A' : Option Addr) (n m c c' : Nat) (s d : List Int) (B B' : Nat) (w : World) (h : RowI .i64 w B A n c s) (h' : RowI .i64 w B' A' m c' d) (hB : B ≤ w.heap.size) (hB' : B' ≤ w.heap.size) :
    Calls Try.prog 24 #[.slice A n c, .slice A' m c'] w fun e w' => e = .returned (.int .i64 (timesEnough s d n m)) ∧ Below w.heap.size w w' := by
  rcases Bool.eq_false_or_eq_true (okList s n 0 1000000) with hS | hS
  · rcases Bool.eq_false_or_eq_true (okList d m 0 1000000) with hD | hD
    · obtain ⟨hn, hs⟩ := okList_t hS h.len
      obtain ⟨hm, hd⟩ := okList_t hD h'.len
      subst hn hm
      have HE := Lib.hid (show timesEnough s d 6 6 = timesTo s d 6 by simp [timesEnough, hS, hD])
      go_enter Try.func24, Try.ntmps24
      go_wp2_with (first | (go_at_call 19; ((with_reducible refine (spec_stockOk A 6 c s B _ h).mono ?_); rintro e w' ⟨rfl, rfl⟩)) | (go_at_call 19; ((with_reducible refine (spec_stockOk A' 6 c' d B' _ h').mono ?_); rintro e w' ⟨rfl, rfl⟩)))
      go_loopw [5, 6] (fun v i wr => ∃ k : Nat, k ≤ 6 ∧ i = .int .i64 k ∧ v = .int .i64 (timesTo s d k) ∧ Below w.heap.size w wr) (fun _ i _ => 6 - (intOf i).toNat)
      case atStart => exact ⟨0, by omega, rfl, rfl, Below.refl _ _⟩
      case round =>
        obtain ⟨k, hk, rfl, rfl, hb⟩ := hrel
        have ht := timesTo_bd s d (fun i hi => (hs i hi).1) k hk
        by_cases hlt : k < 6
        · obtain ⟨b1, o1, rfl, hb1, hc1⟩ := h.at_ hlt
          obtain ⟨b2, o2, rfl, hb2, hc2⟩ := h'.at_ hlt
          have hk1 := (hb.cell (p := ⟨b1, o1 + k, none⟩) (by exact Nat.lt_of_lt_of_le hb1 hB)).trans hc1
          have hk2 := (hb.cell (p := ⟨b2, o2 + k, none⟩) (by exact Nat.lt_of_lt_of_le hb2 hB')).trans hc2
          have hs1 := hs k hlt
          have hd1 := hd k hlt
          have i0 : (0 : Int) ≤ (k : Int) := by omega
          have i1 : (k : Int) < 6 := by omega
          clear hc1 hc2
          rcases (by omega : nth d k ≤ 0 ∨ 1 ≤ nth d k) with hp | hp
          · have HS := Lib.hid (show timesTo s d (k + 1) = timesTo s d k by simp only [timesTo]; rw [if_neg (by omega)])
            go_wp2
            go_roundw
            case rel => exact ⟨k + 1, by omega, by go_num, by rw [HS.out], hb⟩
            case measure => simp [intOf]; omega
          · have HS := Lib.hid (show timesTo s d (k + 1) = min (timesTo s d k) (nth s k / nth d k) by simp only [timesTo]; rw [if_pos (by omega)])
            have nz : (nth d k == 0) = false := beq_eq_false_iff_ne.2 (by omega)
            have eq1 : IntKind.i64.wrap ((nth s k).tdiv (nth d k)) = nth s k / nth d k := by
              rw [Int.tdiv_eq_ediv_of_nonneg (by omega)]
              have g1 : 0 ≤ nth s k / nth d k := Int.ediv_nonneg (by omega) (by omega)
              have g2 : nth s k / nth d k ≤ nth s k := Int.ediv_le_self _ (by omega)
              exact IntWalk.i64_in _ (by omega)
            go_wp2_with fail
            go_quiet (fail)
            clear eq1
            go_wp2
            all_goals go_roundw
            all_goals first | (case rel => refine ⟨k + 1, by omega, by go_num, ?_, ⟨hb.os, hb.tape, hb.output, hb.size, hb.block⟩⟩; rw [HS.out]; congr 1; omega) | skip
            all_goals (simp [intOf]; omega)
        · obtain rfl : k = 6 := by omega
          go_wp2
          go_ret
          exact ⟨ret_int HE.out.symm, hb⟩
    · go_enter Try.func24, Try.ntmps24
      go_wp2_with (first | (go_at_call 19; ((with_reducible refine (spec_stockOk A n c s B _ h).mono ?_); rintro e w' ⟨rfl, rfl⟩)) | (go_at_call 19; ((with_reducible refine (spec_stockOk A' m c' d B' _ h').mono ?_); rintro e w' ⟨rfl, rfl⟩)))
      go_ret
      exact ⟨ret_int (by simp [timesEnough, hS, hD]), Below.refl _ _⟩
  · go_enter Try.func24, Try.ntmps24
    go_wp2_with (first | (go_at_call 19; ((with_reducible refine (spec_stockOk A n c s B _ h).mono ?_); rintro e w' ⟨rfl, rfl⟩)) | (go_at_call 19; ((with_reducible refine (spec_stockOk A' m c' d B' _ h').mono ?_); rintro e w' ⟨rfl, rfl⟩)))
    go_ret
    exact ⟨ret_int (by simp [timesEnough, hS]), Below.refl _ _⟩
theorem isStock0_any (A : Option Addr) (n c : Nat) (zs : List Int) (B : Nat) (w : World) (h : RowI .i64 w B A n c zs) :
    Calls Try.prog 60 #[.slice A n c] w fun e w' => e = .returned (.bool (allIn zs 0 0)) ∧ w = w' := by
  go_enter Try.func60, Try.ntmps60
  go_wp2_with (go_at_call 55; refine (all_any A n c zs _ _ B _ h).mono ?_; rintro e w' ⟨rfl, rfl⟩)
  go_ret
  exact ⟨rfl, rfl⟩
set_option maxHeartbeats 2000000 in
theorem impl_enough (A A' : Option Addr) (n m c c' : Nat) (s d : List Int) (B B' : Nat) (w : World) (h : RowI .i64 w B A n c s) (h' : RowI .i64 w B' A' m c' d) (hB : B ≤ w.heap.size) (hB' : B' ≤ w.heap.size) :
    Calls Try.prog 27 #[.slice A n c, .slice A' m c'] w fun e w' => e = .returned (.bool (enoughFor s d n m)) ∧ Below w.heap.size w w' := by
  rcases Bool.eq_false_or_eq_true (okList s n 0 1000000) with hS | hS
  · rcases Bool.eq_false_or_eq_true (okList d m 0 1000000) with hD | hD
    · obtain ⟨hn, hs⟩ := okList_t hS h.len
      obtain ⟨hm, hd⟩ := okList_t hD h'.len
      subst hn hm
      obtain ⟨R, hR⟩ : ∃ R, R = lackOf s d 6 6 := ⟨_, rfl⟩
      have HR := Lib.hid hR
      have HL : lackOf s d 6 6 = lacks s d 6 := by simp [lackOf, hS, hD]
      have HW : ∀ z ∈ R, (Lit.int .i64 z).wf = true := by rw [hR, HL]; exact lacks_wf hs hd (Nat.le_refl _)
      have HE := Lib.hid (show enoughFor s d 6 6 = allIn R 0 0 by rw [hR, HL, enough_lacks]; simp [enoughFor, hS, hD])
      have HW2 := Lib.hid HW
      clear hR HL HW
      go_enter Try.func27, Try.ntmps27
      go_wp2_with (first | (go_at_call 20; ((with_reducible refine (impl_stockOk A 6 c s B _ h).mono ?_); rintro e w' ⟨rfl, rfl⟩)) | (go_at_call 20; ((with_reducible refine (impl_stockOk A' 6 c' d B' _ h').mono ?_); rintro e w' ⟨rfl, rfl⟩)))
      refine (impl_lackOf A A' 6 6 c c' s d R B B' _ h h' hB hB' HR).mono ?_
      rintro e w1 ⟨A2, c2, rfl, ho, hb⟩
      have hr := ho.rowI HW2.out
      go_wp2_with (go_at_call 60; refine (isStock0_any A2 R.length c2 R _ _ hr).mono ?_; rintro e w' ⟨rfl, rfl⟩)
      go_ret
      exact ⟨ret_bool (by rw [HE.out]), hb⟩
    · go_enter Try.func27, Try.ntmps27
      go_wp2_with (first | (go_at_call 20; ((with_reducible refine (impl_stockOk A n c s B _ h).mono ?_); rintro e w' ⟨rfl, rfl⟩)) | (go_at_call 20; ((with_reducible refine (impl_stockOk A' m c' d B' _ h').mono ?_); rintro e w' ⟨rfl, rfl⟩)))
      go_ret
      exact ⟨ret_bool (by simp [enoughFor, hS, hD]), Below.refl _ _⟩
  · go_enter Try.func27, Try.ntmps27
    go_wp2_with (first | (go_at_call 20; ((with_reducible refine (impl_stockOk A n c s B _ h).mono ?_); rintro e w' ⟨rfl, rfl⟩)) | (go_at_call 20; ((with_reducible refine (impl_stockOk A' m c' d B' _ h').mono ?_); rintro e w' ⟨rfl, rfl⟩)))
    go_ret
    exact ⟨ret_bool (by simp [enoughFor, hS]), Below.refl _ _⟩
theorem enough_snoc {s d : List Int} {k : Nat} (h : ((List.range k).all fun i => decide (nth d i ≤ nth s i)) = true) (hn : nth d k ≤ nth s k) : ((List.range (k + 1)).all fun i => decide (nth d i ≤ nth s i)) = true := by
  rw [List.range_succ, List.all_append, h]
  simp [hn]
theorem enough_no {s d : List Int} {k : Nat} (hk : k < 6) (hn : nth s k < nth d k) : ((List.range 6).all fun i => decide (nth d i ≤ nth s i)) = false := by
  rw [List.all_eq_false]
  exact ⟨k, List.mem_range.2 hk, by simp; omega⟩
set_option maxHeartbeats 2000000 in
theorem spec_enough (A A' : Option Addr) (n m c c' : Nat) (s d : List Int) (B B' : Nat) (w : World) (h : RowI .i64 w B A n c s) (h' : RowI .i64 w B' A' m c' d) (hB : B ≤ w.heap.size) (hB' : B' ≤ w.heap.size) :
    Calls Try.prog 26 #[.slice A n c, .slice A' m c'] w fun e w' => e = .returned (.bool (enoughFor s d n m)) ∧ Below w.heap.size w w' := by
  rcases Bool.eq_false_or_eq_true (okList s n 0 1000000) with hS | hS
  · rcases Bool.eq_false_or_eq_true (okList d m 0 1000000) with hD | hD
    · obtain ⟨hn, hs⟩ := okList_t hS h.len
      obtain ⟨hm, hd⟩ := okList_t hD h'.len
      subst hn hm
      have HE := Lib.hid (show enoughFor s d 6 6 = (List.range 6).all fun i => decide (nth d i ≤ nth s i) by simp [enoughFor, hS, hD])
      go_enter Try.func26, Try.ntmps26
      go_wp2_with (first | (go_at_call 19; ((with_reducible refine (spec_stockOk A 6 c s B _ h).mono ?_); rintro e w' ⟨rfl, rfl⟩)) | (go_at_call 19; ((with_reducible refine (spec_stockOk A' 6 c' d B' _ h').mono ?_); rintro e w' ⟨rfl, rfl⟩)))
      go_loopw [5] (fun i wr => ∃ k : Nat, k ≤ 6 ∧ i = .int .i64 k ∧ Hid (((List.range k).all fun i => decide (nth d i ≤ nth s i)) = true) ∧ Below w.heap.size w wr) (fun i _ => 6 - (intOf i).toNat)
      case atStart => exact ⟨0, by omega, rfl, rfl, Below.refl _ _⟩
      case round =>
        obtain ⟨k, hk, rfl, hall, hb⟩ := hrel
        by_cases hlt : k < 6
        · obtain ⟨b1, o1, rfl, hb1, hc1⟩ := h.at_ hlt
          obtain ⟨b2, o2, rfl, hb2, hc2⟩ := h'.at_ hlt
          have hk1 := (hb.cell (p := ⟨b1, o1 + k, none⟩) (by exact Nat.lt_of_lt_of_le hb1 hB)).trans hc1
          have hk2 := (hb.cell (p := ⟨b2, o2 + k, none⟩) (by exact Nat.lt_of_lt_of_le hb2 hB')).trans hc2
          have i0 : (0 : Int) ≤ (k : Int) := by omega
          have i1 : (k : Int) < 6 := by omega
          clear hc1 hc2
          rcases (by omega : nth d k ≤ nth s k ∨ nth s k < nth d k) with hp | hp
          · go_wp2_with fail
            go_quiet (fail)
            go_wp2
            go_roundw
            case rel => exact ⟨k + 1, by omega, by go_num, enough_snoc hall.out hp, ⟨hb.os, hb.tape, hb.output, hb.size, hb.block⟩⟩
            case measure => simp [intOf]; omega
          · go_wp2_with fail
            go_quiet (fail)
            go_wp2
            go_ret
            exact ⟨ret_bool (by rw [HE.out, enough_no hlt hp]), ⟨hb.os, hb.tape, hb.output, hb.size, hb.block⟩⟩
        · obtain rfl : k = 6 := by omega
          go_wp2
          go_ret
          exact ⟨ret_bool (by rw [HE.out, hall.out]), hb⟩
    · go_enter Try.func26, Try.ntmps26
      go_wp2_with (first | (go_at_call 19; ((with_reducible refine (spec_stockOk A n c s B _ h).mono ?_); rintro e w' ⟨rfl, rfl⟩)) | (go_at_call 19; ((with_reducible refine (spec_stockOk A' m c' d B' _ h').mono ?_); rintro e w' ⟨rfl, rfl⟩)))
      go_ret
      exact ⟨ret_bool (by simp [enoughFor, hS, hD]), Below.refl _ _⟩
  · go_enter Try.func26, Try.ntmps26
    go_wp2_with (first | (go_at_call 19; ((with_reducible refine (spec_stockOk A n c s B _ h).mono ?_); rintro e w' ⟨rfl, rfl⟩)) | (go_at_call 19; ((with_reducible refine (spec_stockOk A' m c' d B' _ h').mono ?_); rintro e w' ⟨rfl, rfl⟩)))
    go_ret
    exact ⟨ret_bool (by simp [enoughFor, hS]), Below.refl _ _⟩
end Go.Proofs.Ythfhbcgnninlkaa
