/- Contracts of l01Once and of the reference's DrawDropped. -/
import Derived.Test.YtkglgbdiakinlaaCur
import Derived.Test.YtkglgbdiakinlaaSwap1
import Derived.Test.YtkglgbdiakinlaaMeetS
namespace Go.Proofs.Ytkglgbdiakinlaa
open Go.ChangeShapes Go.WideShapes Go.ChangeAt Go.RowKit
theorem once_any (k b : Nat) (A : Option Addr) (n c : Nat) (zs : List Int) (B : Nat) (w : World) (hr : RowI .u8 w B A n c zs) (hB : B ≤ b) (hcb : B ≤ w.heap.size) (hn : n ≤ 1048576) (hc : CurAt w b A n c) (k1 : 1 ≤ k) (k2 : k ≤ 256) :
    Calls Try.prog 67 #[.pointer (some ⟨b, 0, none⟩), .int .i64 k] w fun e w' => ∃ t : Bool, e = .returned (.bool t) ∧ CurAt w' b A n c ∧ w.grownBy w' (some b) := by
  go_enter Try.func67, Try.ntmps67
  go_wp2_with fail
  refine (below_any k b A n c zs B w hr hB hcb hn hc k1 k2).mono ?_
  rintro e w' ⟨v, hv, rfl, hc', hg⟩
  go_wp2
  go_ret
  exact ⟨_, rfl, hc', hg⟩
theorem grown_below {w w' : World} {b B : Nat} (hg : w.grownBy w' (some b)) (hB : B ≤ b) (hw : B ≤ w.heap.size) : Below B w w' :=
  (Below.refl _ _).grown hg hw fun k hk => by simp at hk; omega
theorem cur_keep {w w' : World} {b n c : Nat} {A : Option Addr} (h : CurAt w b A n c) (hb : Below w.heap.size w w') : CurAt w' b A n c := by
  obtain ⟨i, x, hi, hh⟩ := h
  exact ⟨i, x, hi, by rw [hb.block b (by rw [Array.getElem?_eq_some_iff] at hh; exact hh.1)]; exact hh⟩
theorem rows_grown {w w' : World} {b base H n c : Nat} {A : Option Addr} {z : Nat → List Int} (h : OwnII w base H (.slice A n c) n z) (hg : w.grownBy w' (some b)) (hb : b < base) : OwnII w' base H (.slice A n c) n z :=
  h.same fun k hk h1 _ => hg.block k hk (by simp; omega)
set_option maxHeartbeats 2000000 in
theorem drawn_any (A : Option Addr) (n c : Nat) (zs : List Int) (w : World) (hr : RowI .u8 w w.heap.size A n c zs) (hn : n ≤ 1048576) :
    Calls Try.prog 49 #[.slice A n c] w fun e w' => ∃ (N k : Nat) (A2 : Option Addr) (c2 : Nat) (z : Nat → List Int), 2 ≤ N ∧ N ≤ 8 ∧ k < N ∧ e = .returned (.tuple #[.int .i64 N, .slice A2 (N - 1) c2, .int .i64 k]) ∧
      ((z = fun j => swapRow N j) ∨ (N % 2 = 0 ∧ z = fun j => meetRow N j)) ∧ OwnII w' w.heap.size w'.heap.size (.slice A2 (N - 1) c2) (N - 1) z ∧ Below w.heap.size w w' := by
  go_enter Try.func49, Try.ntmps49
  go_wp2_with fail
  refine (new_any A n c zs w.heap.size w hr hn).mono ?_
  rintro e w1 ⟨rfl, hc1, hb1, z1⟩
  go_wp2_with fail
  refine (below_any 7 w.heap.size A n c zs w.heap.size w1 (hr.keep fun p hp => hb1.cell hp) (Nat.le_refl _) (by omega) hn hc1 (by omega) (by omega)).mono ?_
  rintro e w2 ⟨q, hq, rfl, hc2, hg2⟩
  have hb2 := hb1.trans (grown_below hg2 (Nat.le_refl _) (by omega))
  have z2 := hg2.size
  clear hb1 hc1 hg2
  obtain ⟨N, hN⟩ : ∃ N, N = q + 2 := ⟨_, rfl⟩
  have t2 : (2 : Int) + (q : Int) = (N : Int) := by omega
  have t3 : IntKind.i64.wrap (2 + (q : Int)) = (N : Int) := by rw [IntWalk.i64_in _ (by omega)]; omega
  have n2 : 2 ≤ N := by omega
  have n8 : N ≤ 8 := by omega
  clear hN hq
  go_wp2_with fail
  clear t2 t3
  refine (spec_makeSwap (N : Int) w2).mono ?_
  rintro e w3 ⟨Ap, cp, rfl, hp, hb3⟩
  rw [swapN_of n2 (by omega)] at hp ⊢
  rw [show ((N : Int)).toNat = N from rfl] at hp
  have hc3 := cur_keep hc2 hb3
  have z3 := hb3.size
  have hb3' := hb2.trans (hb3.mono (by omega))
  clear hb2 hc2 hb3
  rcases Nat.mod_two_eq_zero_or_one N with hE | hE
  · have m0 : (N : Int).tmod 2 = 0 := by rw [Int.tmod_eq_emod_of_nonneg (by omega)]; omega
    go_wp2_with fail
    refine (once_any 2 w.heap.size A n c zs w.heap.size w3 (hr.keep fun p hp => hb3'.cell hp) (Nat.le_refl _) hb3'.size hn hc3 (by omega) (by omega)).mono ?_
    rintro e w4 ⟨t, rfl, hc4, hg4⟩
    have z4 := hg4.size
    have hb4 := hb3'.trans (grown_below hg4 (Nat.le_refl _) hb3'.size)
    have hp4 := (rows_grown hp hg4 (by omega)).more z4
    clear hp hc3 hg4 hb3'
    cases t
    · go_wp2_with fail
      refine (below_any N w.heap.size A n c zs w.heap.size w4 (hr.keep fun p hp => hb4.cell hp) (Nat.le_refl _) hb4.size hn hc4 (by omega) (by omega)).mono ?_
      rintro e w9 ⟨k, hk, rfl, hc9, hg9⟩
      have z9 := hg9.size
      have hb9 := hb4.trans (grown_below hg9 (Nat.le_refl _) hb4.size)
      have ho9 := ((rows_grown hp4 hg9 (by omega)).more z9).down (show w.heap.size ≤ _ by omega)
      go_wp2
      exact bodyPost_ret (v := .tuple #[.int .i64 N, .slice _ (N - 1) _, .int .i64 k]) (by simp [results, Try.results49, go_sem]) rfl ⟨N, k, _, _, _, n2, n8, hk, rfl, .inl rfl, ho9, hb9⟩
    · go_wp2_with fail
      refine (spec_meet (N : Int) w4).mono ?_
      rintro e w5 ⟨Am, cm, rfl, hm, hb5⟩
      rw [meetN_of n2 (by omega) hE] at hm ⊢
      rw [show ((N : Int)).toNat = N from rfl] at hm
      have hc5 := cur_keep hc4 hb5
      have z5 := hb5.size
      have hb5' := hb4.trans (hb5.mono (by omega))
      clear hb4 hc4 hb5 hp4
      go_wp2_with fail
      refine (below_any N w.heap.size A n c zs w.heap.size w5 (hr.keep fun p hp => hb5'.cell hp) (Nat.le_refl _) hb5'.size hn hc5 (by omega) (by omega)).mono ?_
      rintro e w9 ⟨k, hk, rfl, hc9, hg9⟩
      have z9 := hg9.size
      have hb9 := hb5'.trans (grown_below hg9 (Nat.le_refl _) hb5'.size)
      have ho9 := ((rows_grown hm hg9 (by omega)).more z9).down (show w.heap.size ≤ _ by omega)
      go_wp2
      exact bodyPost_ret (v := .tuple #[.int .i64 N, .slice _ (N - 1) _, .int .i64 k]) (by simp [results, Try.results49, go_sem]) rfl ⟨N, k, _, _, _, n2, n8, hk, rfl, .inr ⟨hE, rfl⟩, ho9, hb9⟩
  · have m0 : (N : Int).tmod 2 = 1 := by rw [Int.tmod_eq_emod_of_nonneg (by omega)]; omega
    have m1 : ((1 : Int) == 0) = false := by decide
    go_wp2_with fail
    refine (below_any N w.heap.size A n c zs w.heap.size w3 (hr.keep fun p hp => hb3'.cell hp) (Nat.le_refl _) hb3'.size hn hc3 (by omega) (by omega)).mono ?_
    rintro e w9 ⟨k, hk, rfl, hc9, hg9⟩
    have z9 := hg9.size
    have hb9 := hb3'.trans (grown_below hg9 (Nat.le_refl _) hb3'.size)
    have ho9 := ((rows_grown hp hg9 (by omega)).more z9).down (show w.heap.size ≤ _ by omega)
    go_wp2
    exact bodyPost_ret (v := .tuple #[.int .i64 N, .slice _ (N - 1) _, .int .i64 k]) (by simp [results, Try.results49, go_sem]) rfl ⟨N, k, _, _, _, n2, n8, hk, rfl, .inl rfl, ho9, hb9⟩
end Go.Proofs.Ytkglgbdiakinlaa
