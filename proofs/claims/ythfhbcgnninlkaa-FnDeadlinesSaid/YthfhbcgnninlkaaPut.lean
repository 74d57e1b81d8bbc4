/- Contracts of the small functions on lists: insertion, sorting, strictly ascending lists, the index of a number. -/
import Derived.Test.YthfhbcgnninlkaaApp
import Derived.Test.YthfhbcgnninlkaaPureY
import Derived.Deep.QuietTactic
import Derived.BigQuiet
import Derived.Outline
namespace Go.Proofs.Ythfhbcgnninlkaa
open Go.ChangeShapes Go.WideShapes Go.ChangeAt Go.RowKit
/-- what insertion has made of the first k numbers -/
def putTo (x : Int) (zs : List Int) (k : Nat) : List Int := if anyGe x (zs.take k) then ins x (zs.take k) else zs.take k
theorem putTo_zero (x : Int) (zs : List Int) : putTo x zs 0 = [] := by simp [putTo, anyGe]
theorem anyGe_step (x : Int) {zs : List Int} {k : Nat} (h : k < zs.length) : anyGe x (zs.take (k + 1)) = (anyGe x (zs.take k) || decide (x ≤ nth zs k)) := by
  rw [take_succ_nth h, anyGe_snoc]
theorem putTo_done {x : Int} {zs : List Int} {k : Nat} (h : k < zs.length) (e : anyGe x (zs.take k) = true) : putTo x zs (k + 1) = putTo x zs k ++ [nth zs k] := by
  unfold putTo
  rw [anyGe_step x h, e, Bool.true_or, if_pos rfl, if_pos rfl, take_succ_nth h, ins_snoc, if_pos e]
theorem putTo_new {x : Int} {zs : List Int} {k : Nat} (h : k < zs.length) (e : anyGe x (zs.take k) = false) (q : x ≤ nth zs k) : putTo x zs (k + 1) = putTo x zs k ++ [x] ++ [nth zs k] := by
  unfold putTo
  rw [anyGe_step x h, e, decide_eq_true q, Bool.false_or, if_pos rfl, if_neg (by simp), take_succ_nth h, ins_snoc, if_neg (by rw [e]; simp)]
  simp [ins, q]
theorem putTo_not {x : Int} {zs : List Int} {k : Nat} (h : k < zs.length) (e : anyGe x (zs.take k) = false) (q : nth zs k < x) : putTo x zs (k + 1) = putTo x zs k ++ [nth zs k] := by
  unfold putTo
  rw [anyGe_step x h, e, decide_eq_false (by omega), Bool.false_or, if_neg (by simp), if_neg (by simp), take_succ_nth h]
theorem putTo_end {x : Int} {zs : List Int} (e : anyGe x (zs.take zs.length) = true) : putTo x zs zs.length = ins x zs := by
  unfold putTo
  rw [if_pos e, List.take_length]
theorem putTo_end' {x : Int} {zs : List Int} (e : anyGe x (zs.take zs.length) = false) : putTo x zs zs.length ++ [x] = ins x zs := by
  unfold putTo
  rw [if_neg (by rw [e]; simp), List.take_length]
  rw [List.take_length] at e
  exact (ins_none x zs e).symm
set_option maxHeartbeats 4000000 in
theorem put_any (A : Option Addr) (n c : Nat) (zs : List Int) (x : Int) (B : Nat) (w : World) (hr : RowI .i64 w B A n c zs) (hB : B ≤ w.heap.size) (hn : n ≤ 1000000) :
    Calls Try.prog 71 #[.slice A n c, .int .i64 x] w fun e w' => ∃ A2 c2, e = .returned (.slice A2 (n + 1) c2) ∧ OwnI w' w.heap.size (.slice A2 (n + 1) c2) (ins x zs) ∧ Below w.heap.size w w' := by
  have HL := Lib.hid hr.len
  go_enter Try.func71, Try.ntmps71
  go_wp2_with fail
  go_loopw [5, 6, 8, 12] (fun v d _ i wr => ∃ (k : Nat) (b : Bool) (A2 : Option Addr) (m c2 : Nat), k ≤ n ∧ m ≤ 2 * k ∧ i = .int .i64 k ∧ d = .bool b ∧ v = .slice A2 m c2 ∧ Hid (anyGe x (zs.take k) = b) ∧ OwnI wr w.heap.size (.slice A2 m c2) (putTo x zs k) ∧ Below w.heap.size w wr) (fun _ _ _ i _ => n - (intOf i).toNat)
  case atStart => exact ⟨0, false, _, 0, _, by omega, by omega, rfl, rfl, rfl, Lib.hid rfl, by rw [putTo_zero]; exact own_empty w, (Below.refl _ _).alloc (Nat.le_refl _) _⟩
  case round =>
    obtain ⟨k, b, A2, m, c2, hk, hm, rfl, rfl, rfl, hG, hown, hb⟩ := hrel
    have hlen := Lib.hid hown.form.1
    have hbw := hb.size
    by_cases hlt : k < n
    · have h2 : RowI .i64 wr B A n c zs := hr.keep fun p hp => hb.cell (by omega)
      obtain ⟨bb, off, rfl, hbB, hc⟩ := h2.at_ hlt
      have hkl : k < zs.length := by rw [HL.out]; exact hlt
      have HK := Lib.hid hkl
      have k0 : (0 : Int) ≤ (k : Int) := by omega
      have k3 : (k : Int) < (n : Int) := by omega
      clear h2 hkl
      cases b
      · rcases (by omega : x ≤ nth zs k ∨ nth zs k < x) with q | q
        · have HS := Lib.hid (putTo_new HK.out hG.out q)
          have HG := Lib.hid (show anyGe x (zs.take (k + 1)) = true by rw [anyGe_step x HK.out, decide_eq_true q, Bool.or_true])
          have tok : True := trivial
          go_wp2_with (first | (at_builtin; have _t := tok; refine app_shape rfl _ _ rfl w.heap.size _ (putTo x zs k) x wr.heap.size m (hlen.out.symm) rfl (hown.alloc _) rfl (heap_alloc_new wr _) (by rw [← hlen.out]; omega) (by simp; omega) ?_; intro A4 c4 w4 ho4 hb4; have hz4 := ((hb.alloc hb.size _).trans hb4).size; clear tok _t) | (at_builtin; refine app_shape rfl _ _ rfl w.heap.size _ (putTo x zs k ++ [x]) (nth zs k) w4.heap.size (m + 1) (by rw [List.length_append, ← hlen.out]; rfl) rfl (ho4.alloc _) rfl (heap_alloc_new w4 _) (by rw [List.length_append, ← hlen.out]; simp; omega) (by simp; omega) ?_; intro A6 c6 w6 ho6 hb6))
          have hb5 := (hb.alloc hb.size _).trans hb4
          rw [← HS.out] at ho6
          have hb7 := (hb5.alloc hb5.size _).trans hb6
          clear hb6 hb5 ho4
          go_wp2
          go_roundw
          case rel => exact ⟨k + 1, true, A6, m + 1 + 1, c6, by omega, by omega, by go_num, rfl, rfl, HG, ho6, hb7⟩
          case measure => simp [intOf]; omega
        · have HS := Lib.hid (putTo_not HK.out hG.out q)
          have HG := Lib.hid (show anyGe x (zs.take (k + 1)) = false by rw [anyGe_step x HK.out, hG.out, decide_eq_false (by omega)]; rfl)
          go_wp2_with (at_builtin; refine app_shape rfl _ _ rfl w.heap.size _ (putTo x zs k) (nth zs k) wr.heap.size m (hlen.out.symm) rfl (hown.alloc _) rfl (heap_alloc_new wr _) (by rw [← hlen.out]; omega) (by simp; omega) ?_; intro A4 c4 w4 ho4 hb4)
          rw [← HS.out] at ho4
          have hb5 := (hb.alloc hb.size _).trans hb4
          clear hb4 hown
          go_wp2
          go_roundw
          case rel => exact ⟨k + 1, false, A4, m + 1, c4, by omega, by omega, by go_num, rfl, rfl, HG, ho4, hb5⟩
          case measure => simp [intOf]; omega
      · have HS := Lib.hid (putTo_done HK.out hG.out)
        have HG := Lib.hid (show anyGe x (zs.take (k + 1)) = true by rw [anyGe_step x HK.out, hG.out]; rfl)
        go_wp2_with (at_builtin; refine app_shape rfl _ _ rfl w.heap.size _ (putTo x zs k) (nth zs k) wr.heap.size m (hlen.out.symm) rfl (hown.alloc _) rfl (heap_alloc_new wr _) (by rw [← hlen.out]; omega) (by simp; omega) ?_; intro A4 c4 w4 ho4 hb4)
        rw [← HS.out] at ho4
        have hb5 := (hb.alloc hb.size _).trans hb4
        clear hb4 hown
        go_wp2
        go_roundw
        case rel => exact ⟨k + 1, true, A4, m + 1, c4, by omega, by omega, by go_num, rfl, rfl, HG, ho4, hb5⟩
        case measure => simp [intOf]; omega
    · have HK := Lib.hid (show k = zs.length by rw [HL.out]; omega)
      have k3 : ¬ (k : Int) < (n : Int) := by omega
      cases b
      · have HS := Lib.hid (show putTo x zs k ++ [x] = ins x zs by rw [HK.out]; exact putTo_end' (by have := hG.out; rw [HK.out] at this; exact this))
        have HM := Lib.hid (show m = n by have h1 := hlen.out; have h2 := congrArg List.length HS.out; rw [List.length_append, ins_len, HL.out] at h2; simp at h2; omega)
        go_wp2_with (at_builtin; refine app_shape rfl _ _ rfl w.heap.size _ (putTo x zs k) x wr.heap.size m (hlen.out.symm) rfl (hown.alloc _) rfl (heap_alloc_new wr _) (by rw [← hlen.out]; omega) (by simp; omega) ?_; intro A4 c4 w4 ho4 hb4)
        rw [HS.out] at ho4
        have hb5 := (hb.alloc hb.size _).trans hb4
        clear hb4 hown
        rw [HM.out] at ho4 ⊢
        go_wp2
        go_ret
        exact ⟨A4, c4, rfl, ho4, hb5⟩
      · have HS := Lib.hid (show putTo x zs k = ins x zs by rw [HK.out]; exact putTo_end (by have := hG.out; rw [HK.out] at this; exact this))
        have HM := Lib.hid (show m = n + 1 by have h1 := hlen.out; rw [HS.out, ins_len, HL.out] at h1; exact h1)
        rw [HS.out] at hown
        rw [HM.out] at hown ⊢
        go_wp2
        go_ret
        exact ⟨A2, c2, rfl, hown, hb⟩
set_option maxHeartbeats 4000000 in
theorem index_any (A : Option Addr) (n c : Nat) (zs : List Int) (x : Int) (B : Nat) (w : World) (hr : RowI .i64 w B A n c zs) :
    Calls Try.prog 70 #[.slice A n c, .int .i64 x] w fun e w' => e = .returned (.int .i64 (idxOf zs x)) ∧ w = w' := by
  have HL := Lib.hid hr.len
  have hcap := hr.cap
  unfold maxLen at hcap
  go_enter Try.func70, Try.ntmps70
  go_wp2_with fail
  go_loop [5, 6, 9] (fun _ _ i => ∃ k : Nat, k ≤ n ∧ i = .int .i64 k ∧ Hid (idxOf zs x = idxFrom zs x k (n - k))) (fun _ _ i => n - (intOf i).toNat)
  case atStart => exact ⟨0, Nat.zero_le _, rfl, Lib.hid (by unfold idxOf; rw [HL.out]; rfl)⟩
  case round =>
    obtain ⟨k, hk, rfl, hI⟩ := hrel
    by_cases hlt : k < n
    · obtain ⟨bb, off, rfl, hbB, hc⟩ := hr.at_ hlt
      have k0 : (0 : Int) ≤ (k : Int) := by omega
      have k3 : (k : Int) < (n : Int) := by omega
      have HE := Lib.hid (show idxFrom zs x k (n - k) = if nth zs k == x then (k : Int) else idxFrom zs x (k + 1) (n - (k + 1)) by rw [show n - k = (n - (k + 1)) + 1 by omega]; rfl)
      rcases Bool.eq_false_or_eq_true (nth zs k == x) with q | q
      · have HS := Lib.hid (show idxOf zs x = (k : Int) by rw [hI.out, HE.out, if_pos q])
        go_wp2
        go_ret
        exact ⟨ret_int HS.out.symm, rfl⟩
      · have HS := Lib.hid (show idxOf zs x = idxFrom zs x (k + 1) (n - (k + 1)) by rw [hI.out, HE.out, if_neg (by rw [q]; simp)])
        go_wp2
        go_round
        case rel => exact ⟨k + 1, by omega, by go_num, HS⟩
        case measure => simp [intOf]; omega
    · have HS := Lib.hid (show idxOf zs x = -1 by rw [hI.out, show n - k = 0 by omega]; rfl)
      have k3 : ¬ (k : Int) < (n : Int) := by omega
      go_wp2
      go_ret
      exact ⟨ret_int HS.out.symm, rfl⟩
end Go.Proofs.Ythfhbcgnninlkaa
