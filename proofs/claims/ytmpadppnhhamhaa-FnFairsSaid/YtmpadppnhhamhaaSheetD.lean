/- Contracts of the reference's drawing of a sheet: l28Sheet, DrawSheet. -/
import Derived.Test.YtmpadppnhhamhaaCurs
namespace Go.Proofs.Ytmpadppnhhamhaa
open Go.ChangeShapes Go.WideShapes Go.ChangeAt Go.RowKit
set_option maxHeartbeats 4000000 in
theorem sheet_drawn (b : Nat) (A : Option Addr) (n c : Nat) (zs : List Int) (B : Nat) (w : World) (hr : RowI .u8 w B A n c zs) (hB : B ≤ b) (hbw : b < w.heap.size) (hn : n ≤ 1048576) (hc : CurAt w b A n c) :
    Calls Try.prog 37 #[.pointer (some ⟨b, 0, none⟩)] w fun e w' => ∃ (N M : Nat) (A2 : Option Addr) (c2 : Nat) (z : Nat → List Int), 1 ≤ N ∧ N ≤ 5 ∧ 1 ≤ M ∧ M ≤ 5 ∧ e = .returned (.slice A2 N c2) ∧
      (∀ j, j < N → (z j).length = M ∧ ∀ x ∈ z j, 0 ≤ x ∧ x ≤ 50) ∧ OwnII w' w.heap.size w'.heap.size (.slice A2 N c2) N z ∧ Below B w w' := by
  have hb0 : Below B w (w.alloc (.cells #[] 28)) := (Below.refl _ _).alloc (by omega) _
  have hc0 : CurAt (w.alloc (.cells #[] 28)) b A n c := cur_below hc ((Below.refl w.heap.size w).alloc (Nat.le_refl _) (.cells #[] 28)) hbw
  have ho0 := ownII_empty w (fun _ => [])
  have s0 := hb0.size
  go_enter Try.func37, Try.ntmps37
  go_wp2_with fail
  refine (below_any 5 b A n c zs B _ (hr.keep fun p hp => hb0.cell hp) hB (by omega) hn hc0 (by omega) (by omega)).mono ?_
  rintro e w1 ⟨q, hq, rfl, hc1, hg1⟩
  have ho1 := (rowsII_grown ho0 hg1 hbw).more (show w.heap.size + 1 ≤ w1.heap.size by have := hg1.size; simpa using this)
  have hb1 := hb0.trans (grown_below hg1 hB (by omega))
  have s1 := hb1.size
  clear ho0 hc0 hb0 s0 hg1
  obtain ⟨N, hN⟩ : ∃ N, N = q + 1 := ⟨_, rfl⟩
  have t2 : (1 : Int) + (q : Int) = (N : Int) := by omega
  have t3 : IntKind.i64.wrap (1 + (q : Int)) = (N : Int) := by rw [IntWalk.i64_in _ (by omega)]; omega
  have n1 : 1 ≤ N := by omega
  have n5 : N ≤ 5 := by omega
  clear hN hq
  go_wp2_with fail
  clear t2 t3
  refine (below_any 5 b A n c zs B w1 (hr.keep fun p hp => hb1.cell hp) hB (by omega) hn hc1 (by omega) (by omega)).mono ?_
  rintro e w2 ⟨q, hq, rfl, hc2, hg2⟩
  have ho2 := (rowsII_grown ho1 hg2 hbw).more hg2.size
  have hb2 := hb1.trans (grown_below hg2 hB (by omega))
  have s2 := hb2.size
  clear ho1 hc1 hb1 s1 hg2
  obtain ⟨M, hM⟩ : ∃ M, M = q + 1 := ⟨_, rfl⟩
  have t2 : (1 : Int) + (q : Int) = (M : Int) := by omega
  have t3 : IntKind.i64.wrap (1 + (q : Int)) = (M : Int) := by rw [IntWalk.i64_in _ (by omega)]; omega
  have m1 : 1 ≤ M := by omega
  have m5 : M ≤ 5 := by omega
  clear hM hq
  go_wp2_with fail
  clear t2 t3
  go_loopw [3, 6, 7, 8] (fun v jv _ _ wr => ∃ (j : Nat) (z : Nat → List Int) (A2 : Option Addr) (c2 : Nat), j ≤ N ∧ jv = .int .i64 j ∧ v = .slice A2 j c2 ∧ Hid (∀ i, i < j → (z i).length = M ∧ ∀ x ∈ z i, 0 ≤ x ∧ x ≤ 50) ∧ OwnII wr w.heap.size wr.heap.size (.slice A2 j c2) j z ∧ CurAt wr b A n c ∧ Below B w wr ∧ w.heap.size ≤ wr.heap.size) (fun _ jv _ _ _ => N - (intOf jv).toNat)
  case atStart => exact ⟨0, _, _, _, by omega, rfl, rfl, Lib.hid (fun i hi => by omega), ho2, hc2, hb2, s2⟩
  case round =>
    clear ho2 hc2 hb2 s2
    obtain ⟨j, z, A2, c2, hj, rfl, rfl, HZ, ho, hc, hb, hs⟩ := hrel
    by_cases hlt : j < N
    · obtain ⟨wo, rfl⟩ : ∃ wo : World, wo = wr := ⟨_, rfl⟩
      have hb3 : Below B w (wo.alloc (.cells #[] 3)) := hb.alloc (by omega) _
      have hc3 : CurAt (wo.alloc (.cells #[] 3)) b A n c := cur_below hc ((Below.refl wo.heap.size wo).alloc (Nat.le_refl _) (.cells #[] 3)) (by omega)
      have ho3 := ownII_alloc ho (.cells #[] 3)
      have hi3 := own_empty wo
      have s3 : wo.heap.size ≤ (wo.alloc (.cells #[] 3)).heap.size := by simp
      go_wp2_with fail
      go_loopw [7, 8] (fun lv kv wr => ∃ (k : Nat) (xs : List Int) (A3 : Option Addr) (c3 : Nat), k ≤ M ∧ kv = .int .i64 k ∧ lv = .slice A3 k c3 ∧ Hid (xs.length = k ∧ ∀ x ∈ xs, 0 ≤ x ∧ x ≤ 50) ∧ OwnI wr wo.heap.size (.slice A3 k c3) xs ∧ OwnII wr w.heap.size wo.heap.size (.slice A2 j c2) j z ∧ CurAt wr b A n c ∧ Below B w wr ∧ wo.heap.size ≤ wr.heap.size) (fun _ kv _ => M - (intOf kv).toNat)
      case atStart => exact ⟨0, [], _, _, by omega, rfl, rfl, Lib.hid ⟨rfl, fun x hx => by cases hx⟩, hi3, ho3, hc3, hb3, s3⟩
      case round =>
        clear ho hc hb hi3 ho3 hc3 hb3 s3
        obtain ⟨k, xs, A3, c3, hk, rfl, rfl, HX, hi, ho, hc, hb, hs3⟩ := hrel
        by_cases hkl : k < M
        · go_wp2_with fail
          refine (below_any 6 b A n c zs B wr (hr.keep fun p hp => hb.cell hp) hB (by omega) hn hc (by omega) (by omega)).mono ?_
          rintro e w4 ⟨q, hq, rfl, hc4, hg4⟩
          have ho4 := rowsII_grown ho hg4 hbw
          have hi4 := ownI_grown hi hg4 (show b < wo.heap.size by omega)
          have hb4 := hb.trans (grown_below hg4 hB (by omega))
          have s4 := hg4.size
          clear ho hi hb hc hg4
          obtain ⟨x, hx⟩ : ∃ x : Int, x = 10 * (q : Int) := ⟨_, rfl⟩
          have t1 : (10 : Int) * (q : Int) = x := hx.symm
          have t2 : IntKind.i64.wrap (10 * (q : Int)) = x := by rw [IntWalk.i64_in _ (by omega)]; omega
          have x0 : 0 ≤ x := by omega
          have x1 : x ≤ 50 := by omega
          clear hx hq
          go_wp2_with (at_builtin; refine app_shape rfl _ _ rfl wo.heap.size _ xs x w4.heap.size k HX.out.1 rfl (hi4.alloc _) rfl (heap_alloc_new w4 _) (by rw [HX.out.1]; omega) (by simp; omega) ?_; intro A6 c6 w6 ho6 hb6)
          clear t1 t2
          have hb7 : Below wo.heap.size w4 w6 := ((Below.refl wo.heap.size w4).alloc (by omega) _).trans hb6
          have s7 := hb7.size
          have HX2 := Lib.hid (show (xs ++ [x]).length = k + 1 ∧ ∀ y ∈ xs ++ [x], 0 ≤ y ∧ y ≤ 50 by
            refine ⟨by rw [List.length_append, HX.out.1]; rfl, fun y hy => ?_⟩
            rcases List.mem_append.1 hy with h | h
            · exact HX.out.2 y h
            · simp only [List.mem_singleton] at h; omega)
          have ho7 := rowsII_below ho4 hb7 (Nat.le_refl _)
          have hc7 := cur_below hc4 hb7 (by omega)
          have hb8 := hb4.trans (hb7.mono (by omega))
          clear hb6 hb7 ho4 hc4 hb4 hi4
          go_wp2
          go_roundw
          case rel => exact ⟨k + 1, _, A6, c6, by omega, by go_num, rfl, HX2, ho6, ho7, hc7, hb8, by omega⟩
          case measure => simp [intOf]; omega
        · obtain rfl : k = M := by omega
          have hu := ho.congr (z' := upd z j xs) (fun i hi => by unfold upd; rw [if_neg (by omega)])
          have hrow : OwnI wr wo.heap.size (.slice A3 k c3) (upd z j xs j) := by unfold upd; rw [if_pos rfl]; exact hi
          have HZ2 := Lib.hid (show ∀ i, i < j + 1 → (upd z j xs i).length = k ∧ ∀ x ∈ upd z j xs i, 0 ≤ x ∧ x ≤ 50 by
            intro i hi
            unfold upd
            rcases (by omega : i = j ∨ i < j) with rfl | h
            · rw [if_pos rfl]; exact HX.out
            · rw [if_neg (by omega)]; exact HZ.out i h)
          clear ho hi
          go_wp2_with (at_builtin; (refine appII_shape rfl _ _ rfl w.heap.size wo.heap.size j _ _ (upd z j xs) wr.heap.size rfl (ownII_alloc hu _) (hrow.alloc _) hs rfl (heap_alloc_new wr _) (by omega) (by simp; omega) ?_); intro A6 c6 w6 ho6 hb6)
          have hb7 : Below w.heap.size wr w6 := ((Below.refl w.heap.size wr).alloc (by omega) _).trans hb6
          have s7 := hb7.size
          have hc7 := cur_below hc hb7 hbw
          have hb8 := hb.trans (hb7.mono (by omega))
          clear hb6 hb7 hc hb hu hrow
          go_wp2
          go_roundw
          case rel => exact ⟨j + 1, _, A6, c6, by omega, by go_num, rfl, HZ2, ho6, hc7, hb8, by omega⟩
          case measure => simp [intOf]; omega
    · obtain rfl : j = N := by omega
      go_wp2
      go_ret
      exact ⟨j, M, A2, c2, z, n1, n5, m1, m5, rfl, HZ.out, ho, hb⟩
theorem drawSheet_any (A : Option Addr) (n c : Nat) (zs : List Int) (w : World) (hr : RowI .u8 w w.heap.size A n c zs) (hn : n ≤ 1048576) :
    Calls Try.prog 30 #[.slice A n c] w fun e w' => ∃ (N M : Nat) (A2 : Option Addr) (c2 : Nat) (z : Nat → List Int), 1 ≤ N ∧ N ≤ 5 ∧ 1 ≤ M ∧ M ≤ 5 ∧ e = .returned (.slice A2 N c2) ∧
      (∀ j, j < N → (z j).length = M ∧ ∀ x ∈ z j, 0 ≤ x ∧ x ≤ 50) ∧ OwnII w' w.heap.size w'.heap.size (.slice A2 N c2) N z ∧ Below w.heap.size w w' := by
  go_enter Try.func30, Try.ntmps30
  go_wp2_with fail
  refine (new_any A n c zs w.heap.size w hr hn).mono ?_
  rintro e w1 ⟨rfl, hc1, hb1, z1⟩
  go_wp2_with fail
  refine (sheet_drawn w.heap.size A n c zs w.heap.size w1 (hr.keep fun p hp => hb1.cell hp) (Nat.le_refl _) (by omega) hn hc1).mono ?_
  rintro e w2 ⟨N, M, A2, c2, z, h1, h2, h3, h4, rfl, HZ, ho, hb2⟩
  have HZ' := Lib.hid HZ
  clear HZ
  go_wp2
  go_ret
  exact ⟨N, M, A2, c2, z, h1, h2, h3, h4, rfl, HZ'.out, ho.down (by omega), hb1.trans hb2⟩
end Go.Proofs.Ytmpadppnhhamhaa
