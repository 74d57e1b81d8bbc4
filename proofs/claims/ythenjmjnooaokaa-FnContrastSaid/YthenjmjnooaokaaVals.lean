/- Contract of the reference's drawing of values: DrawValues. -/
import Derived.Test.YthenjmjnooaokaaCurs
import Derived.Test.YthenjmjnooaokaaApp
namespace Go.Proofs.Ythenjmjnooaokaa
open Go.ChangeShapes Go.WideShapes Go.ChangeAt Go.RowKit
theorem ownI_some {w : World} {base n c : Nat} {A : Option Addr} {zs : List Int} (h : OwnI w base (.slice A n c) zs) (hn : 0 < n) : ∃ g, A = some ⟨g, 0, none⟩ := by
  rcases h.form.2 with ⟨_, e⟩ | e
  · omega
  · exact e
set_option maxHeartbeats 4000000 in
theorem vals_any (A : Option Addr) (n c : Nat) (zs : List Int) (w : World) (hr : RowI .u8 w w.heap.size A n c zs) (hn : n ≤ 1048576) :
    Calls Try.prog 31 #[.slice A n c] w fun e w' => ∃ (A2 : Option Addr) (c2 : Nat) (xs : List Int), e = .returned (.slice A2 6 c2) ∧ xs.length = 6 ∧ (∀ x ∈ xs, 0 ≤ x ∧ x ≤ 100) ∧ OwnI w' w.heap.size (.slice A2 6 c2) xs ∧ Below w.heap.size w w' := by
  go_enter Try.func31, Try.ntmps31
  go_wp2_with fail
  refine (new_any A n c zs w.heap.size w hr hn).mono ?_
  rintro e w1 ⟨rfl, hc1, hb1, z1⟩
  have hbw : w.heap.size < w1.heap.size := by omega
  have hi0 := (own_empty w1).base (show w.heap.size + 1 ≤ w1.heap.size by omega)
  have hb0 := hb1.alloc (show w.heap.size ≤ w1.heap.size by omega) (.cells #[] 3)
  have hc0 := cur_below hc1 ((Below.refl w1.heap.size w1).alloc (Nat.le_refl _) (.cells #[] 3)) hbw
  have s0 : w.heap.size + 1 ≤ (w1.alloc (.cells #[] 3)).heap.size := by simp; omega
  clear hc1 hb1 z1
  go_wp2_with fail
  go_loopw [4, 5] (fun lv kv wr => ∃ (k : Nat) (xs : List Int) (A3 : Option Addr) (c3 : Nat), k ≤ 6 ∧ kv = .int .i64 k ∧ lv = .slice A3 k c3 ∧ Hid (xs.length = k ∧ ∀ x ∈ xs, 0 ≤ x ∧ x ≤ 100) ∧ OwnI wr (w.heap.size + 1) (.slice A3 k c3) xs ∧ CurAt wr w.heap.size A n c ∧ Below w.heap.size w wr ∧ w.heap.size + 1 ≤ wr.heap.size) (fun _ kv _ => 6 - (intOf kv).toNat)
  case atStart => exact ⟨0, [], _, _, by omega, rfl, rfl, Lib.hid ⟨rfl, fun x hx => by cases hx⟩, hi0, hc0, hb0, s0⟩
  case round =>
    clear hi0 hc0 hb0 s0 hbw
    obtain ⟨k, xs, A3, c3, hk, rfl, rfl, HX, hi, hc, hb, hs⟩ := hrel
    by_cases hkl : k < 6
    · go_wp2_with fail
      refine (below_any 21 w.heap.size A n c zs w.heap.size wr (hr.keep fun p hp => hb.cell hp) (Nat.le_refl _) (by omega) hn hc (by omega) (by omega)).mono ?_
      rintro e w4 ⟨q, hq, rfl, hc4, hg4⟩
      have hi4 := ownI_grown hi hg4 (by omega)
      have hb4 := hb.trans (grown_below hg4 (Nat.le_refl _) (by omega))
      have s4 := hg4.size
      clear hi hb hc hg4
      obtain ⟨x, hx⟩ : ∃ x : Int, x = 5 * (q : Int) := ⟨_, rfl⟩
      have t1 : (5 : Int) * (q : Int) = x := hx.symm
      have t2 : IntKind.i64.wrap (5 * (q : Int)) = x := by rw [IntWalk.i64_in _ (by omega)]; omega
      have x0 : 0 ≤ x := by omega
      have x1 : x ≤ 100 := by omega
      clear hx hq
      go_wp2_with (at_builtin; refine app_shape rfl _ _ rfl (w.heap.size + 1) _ xs x w4.heap.size k HX.out.1 rfl (hi4.alloc _) rfl (heap_alloc_new w4 _) (by rw [HX.out.1]; omega) (by simp; omega) ?_; intro A6 c6 w6 ho6 hb6)
      clear t1 t2
      have hb7 : Below (w.heap.size + 1) w4 w6 := ((Below.refl (w.heap.size + 1) w4).alloc (by omega) _).trans hb6
      have s7 := hb7.size
      have HX2 := Lib.hid (show (xs ++ [x]).length = k + 1 ∧ ∀ y ∈ xs ++ [x], 0 ≤ y ∧ y ≤ 100 by
        refine ⟨by rw [List.length_append, HX.out.1]; rfl, fun y hy => ?_⟩
        rcases List.mem_append.1 hy with h | h
        · exact HX.out.2 y h
        · simp only [List.mem_singleton] at h; omega)
      have hc7 := cur_below hc4 hb7 (by omega)
      have hb8 := hb4.trans (hb7.mono (by omega))
      clear hb6 hb7 hc4 hb4 hi4
      go_wp2
      go_roundw
      case rel => exact ⟨k + 1, _, A6, c6, by omega, by go_num, rfl, HX2, ho6, hc7, hb8, by omega⟩
      case measure => simp [intOf]; omega
    · obtain rfl : k = 6 := by omega
      have hi9 := hi.base (show w.heap.size ≤ w.heap.size + 1 by omega)
      clear hi hc
      go_wp2
      go_ret
      exact ⟨A3, c3, xs, rfl, HX.out.1, HX.out.2, hi9, hb⟩
end Go.Proofs.Ythenjmjnooaokaa
