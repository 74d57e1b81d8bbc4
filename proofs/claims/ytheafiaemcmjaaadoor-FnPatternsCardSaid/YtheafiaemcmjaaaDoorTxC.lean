/- Contracts of CellText: the program's and the reference's. -/
import Derived.Test.YtheafiaemcmjaaaDoorTx
namespace Go.Proofs.YtheafiaemcmjaaaDoor
open Go.ChangeShapes Go.WideShapes Go.ChangeAt Go.RowKit
theorem impl_fmtI (n : Int) (w : World) (h0 : 0 ≤ n) (h : n ≤ 9) : Calls Tryd.prog 42 #[.int .i64 n] w fun e w' => e = .returned (.string (strB (figs n.toNat))) ∧ w = w' := by
  obtain ⟨k, rfl⟩ : ∃ k : Nat, n = k := ⟨n.toNat, by omega⟩
  rw [Int.toNat_natCast]
  exact impl_fmt k w (by omega)
theorem quiet_fmtI (n : Int) (w : World) (m : Nat) (h0 : 0 ≤ n) (h : n ≤ 9) : Calls Tryd.prog 42 #[.int .i64 n] (w.drewN m) fun e w' => e = .returned (.string (strB (figs n.toNat))) ∧ ∃ k, w' = w.drewN k :=
  Calls.quiet_of_same ((impl_fmtI n _ h0 h).mono fun _ _ ⟨x, y⟩ => ⟨x, y.symm⟩)
theorem spec_fmtI (n : Int) (w : World) (h0 : 0 ≤ n) (h : n ≤ 9) : Calls Tryd.prog 39 #[.int .i64 n] w fun e w' => e = .returned (.string (strB (figs n.toNat))) ∧ Below w.heap.size w w' := by
  obtain ⟨k, rfl⟩ : ∃ k : Nat, n = k := ⟨n.toNat, by omega⟩
  rw [Int.toNat_natCast]
  exact spec_fmt k w (by omega)
theorem cellTx_0 {f : Nat → Int} (h : cellOk f = true) (e : f 0 = 0) : cellTx f = figs (f 1).toNat := by unfold cellTx; rw [if_pos h, if_pos e]
theorem cellTx_1 {f : Nat → Int} (h : cellOk f = true) (e : f 0 = 1) : cellTx f = figs (f 1).toNat ++ [47] ++ figs (f 2).toNat := by unfold cellTx; rw [if_pos h, if_neg (by omega), if_pos e]
theorem cellTx_2 {f : Nat → Int} (h : cellOk f = true) (e : f 0 = 2) : cellTx f = figs (f 1).toNat ++ [92] ++ figs (f 2).toNat := by unfold cellTx; rw [if_pos h, if_neg (by omega), if_neg (by omega)]
theorem strB_lit (l : List UInt8) : (⟨l.toArray⟩ : ByteArray) = strB l := rfl
set_option maxRecDepth 100000 in
set_option maxHeartbeats 4000000 in
theorem impl_cellTx (f : Nat → Int) (w : World) : Calls Tryd.prog 36 #[.agg #[.int .i64 (f 0), .int .i64 (f 1), .int .i64 (f 2)]] w fun e w' => e = .returned (.string (strB (cellTx f))) ∧ Below w.heap.size w w' := by
  rcases (Bool.eq_false_or_eq_true (cellOk f)).symm with hO | hO
  · have HE := Lib.hid (cellTx_no hO)
    go_enter Tryd.func36, Tryd.ntmps36
    go_wp2_with fail
    refine (impl_cellOk f _).mono ?_
    rintro e w1 ⟨rfl, hb1⟩
    rw [hO]
    have hb2 := ((Below.refl w.heap.size w).alloc (Nat.le_refl _) (.cells #[.int .i64 (f 0), .int .i64 (f 1), .int .i64 (f 2)] 23)).trans (hb1.mono (by simp))
    go_wp2
    go_ret
    exact ⟨by rw [HE.out]; rfl, hb2⟩
  · obtain ⟨⟨a1, a2⟩, ⟨b1, b2⟩, ⟨c1, c2⟩, _⟩ := cellOk_t hO
    have HO := Lib.hid hO
    rcases (by omega : f 0 = 0 ∨ f 0 = 1 ∨ f 0 = 2) with h0 | h0 | h0
    · have HE := Lib.hid (cellTx_0 hO h0)
      have H0 := Lib.hid h0
      clear hO h0
      go_enter Tryd.func36, Tryd.ntmps36
      go_wp2_with fail
      refine (impl_cellOk f _).mono ?_
      rintro e w1 ⟨rfl, hb1⟩
      rw [HO.out]
      have hb2 := ((Below.refl w.heap.size w).alloc (Nat.le_refl _) (.cells #[.int .i64 (f 0), .int .i64 (f 1), .int .i64 (f 2)] 23)).trans (hb1.mono (by simp))
      obtain ⟨hcc, hfc⟩ := bcell hb1
      have z1 : w.heap.size < w1.heap.size := by have := hb1.size; simp at this; omega
      have x0 := (hcc w.heap.size 0 (by simp)).trans (by go_simp : _ = some (.int .i64 (f 0)))
      have x1 := (hcc w.heap.size 1 (by simp)).trans (by go_simp : _ = some (.int .i64 (f 1)))
      rw [H0.out] at x0
      clear hcc hfc hb1
      have hb3 := hb2.alloc hb2.size (.cells #[.string (strB []), .string (strB [47]), .string (strB [92])] 9)
      go_wp2_with fail
      refine (impl_fmtI (f 1) _ b1 (by omega)).mono ?_
      rintro e w3 ⟨rfl, rfl⟩
      rw [← HE.out]
      go_wp2
      go_ret
      exact ⟨rfl, hb3⟩
    all_goals
      first | have HE := Lib.hid (cellTx_1 hO h0) | have HE := Lib.hid (cellTx_2 hO h0)
      have H0 := Lib.hid h0
      clear hO h0
      go_enter Tryd.func36, Tryd.ntmps36
      go_wp2_with fail
      refine (impl_cellOk f _).mono ?_
      rintro e w1 ⟨rfl, hb1⟩
      rw [HO.out]
      have hb2 := ((Below.refl w.heap.size w).alloc (Nat.le_refl _) (.cells #[.int .i64 (f 0), .int .i64 (f 1), .int .i64 (f 2)] 23)).trans (hb1.mono (by simp))
      obtain ⟨hcc, hfc⟩ := bcell hb1
      have z1 : w.heap.size < w1.heap.size := by have := hb1.size; simp at this; omega
      have x0 := (hcc w.heap.size 0 (by simp)).trans (by go_simp : _ = some (.int .i64 (f 0)))
      have x1 := (hcc w.heap.size 1 (by simp)).trans (by go_simp : _ = some (.int .i64 (f 1)))
      have x2 := (hcc w.heap.size 2 (by simp)).trans (by go_simp : _ = some (.int .i64 (f 2)))
      rw [H0.out] at x0
      clear hcc hfc hb1
      have hb3 := hb2.alloc hb2.size (.cells #[.string (strB []), .string (strB [47]), .string (strB [92])] 9)
      have b9 : f 1 ≤ 9 := by omega
      have c9 : f 2 ≤ 9 := by omega
      go_wp2_with fail
      have g1 : ((strB (figs (f 1).toNat)).size : Int) ≤ 8388608 := by rw [strB_size]; simp [figs]
      have g2 : ((strB (figs (f 2).toNat)).size : Int) ≤ 8388608 := by rw [strB_size]; simp [figs]
      have g3 : ((strB (figs (f 1).toNat) ++ (⟨#[47]⟩ : ByteArray)).size : Int) ≤ 8388608 := by rw [show (⟨#[47]⟩ : ByteArray) = strB [47] from rfl, strB_app, strB_size]; simp [figs]
      have g4 : ((strB (figs (f 1).toNat) ++ (⟨#[92]⟩ : ByteArray)).size : Int) ≤ 8388608 := by rw [show (⟨#[92]⟩ : ByteArray) = strB [92] from rfl, strB_app, strB_size]; simp [figs]
      have g5 : ((⟨#[47]⟩ : ByteArray).size : Int) ≤ 8388608 := by decide
      have g6 : ((⟨#[92]⟩ : ByteArray).size : Int) ≤ 8388608 := by decide
      go_quiet ((go_at_call 42; first | (with_reducible exact quiet_fmtI (f 1) _ _ b1 b9) | (with_reducible exact quiet_fmtI (f 2) _ _ c1 c9)))
      go_wp2
      go_ret
      exact ⟨by rw [HE.out, ← strB_app, ← strB_app]; rfl, ⟨hb3.os, hb3.tape, hb3.output, hb3.size, hb3.block⟩⟩
set_option maxRecDepth 100000 in
set_option maxHeartbeats 4000000 in
theorem spec_cellTx (f : Nat → Int) (w : World) : Calls Tryd.prog 33 #[.agg #[.int .i64 (f 0), .int .i64 (f 1), .int .i64 (f 2)]] w fun e w' => e = .returned (.string (strB (cellTx f))) ∧ Below w.heap.size w w' := by
  rcases (Bool.eq_false_or_eq_true (cellOk f)).symm with hO | hO
  · have HE := Lib.hid (cellTx_no hO)
    go_enter Tryd.func33, Tryd.ntmps33
    go_wp2_with fail
    refine (spec_cellOk f _).mono ?_
    rintro e w1 ⟨rfl, hb1⟩
    rw [hO]
    have hb2 := ((Below.refl w.heap.size w).alloc (Nat.le_refl _) (.cells #[.int .i64 (f 0), .int .i64 (f 1), .int .i64 (f 2)] 23)).trans (hb1.mono (by simp))
    go_wp2
    go_ret
    exact ⟨by rw [HE.out]; rfl, hb2⟩
  · obtain ⟨⟨a1, a2⟩, ⟨b1, b2⟩, ⟨c1, c2⟩, _⟩ := cellOk_t hO
    have HO := Lib.hid hO
    have b9 : f 1 ≤ 9 := by omega
    have c9 : f 2 ≤ 9 := by omega
    rcases (by omega : f 0 = 0 ∨ f 0 = 1 ∨ f 0 = 2) with h0 | h0 | h0
    · have HE := Lib.hid (cellTx_0 hO h0)
      have H0 := Lib.hid h0
      clear hO h0
      go_enter Tryd.func33, Tryd.ntmps33
      go_wp2_with fail
      refine (spec_cellOk f _).mono ?_
      rintro e w1 ⟨rfl, hb1⟩
      rw [HO.out]
      have hb2 := ((Below.refl w.heap.size w).alloc (Nat.le_refl _) (.cells #[.int .i64 (f 0), .int .i64 (f 1), .int .i64 (f 2)] 23)).trans (hb1.mono (by simp))
      obtain ⟨hcc, hfc⟩ := bcell hb1
      have x0 := (hcc w.heap.size 0 (by simp)).trans (by go_simp : _ = some (.int .i64 (f 0)))
      have x1 := (hcc w.heap.size 1 (by simp)).trans (by go_simp : _ = some (.int .i64 (f 1)))
      rw [H0.out] at x0
      clear hcc hfc hb1
      go_wp2_with fail
      refine (spec_fmtI (f 1) _ b1 b9).mono ?_
      rintro e w3 ⟨rfl, hb3⟩
      rw [← HE.out]
      have hb4 := hb2.trans (hb3.mono hb2.size)
      go_wp2
      go_ret
      exact ⟨rfl, hb4⟩
    all_goals
      first | have HE := Lib.hid (cellTx_1 hO h0) | have HE := Lib.hid (cellTx_2 hO h0)
      have H0 := Lib.hid h0
      clear hO h0
      go_enter Tryd.func33, Tryd.ntmps33
      go_wp2_with fail
      refine (spec_cellOk f _).mono ?_
      rintro e w1 ⟨rfl, hb1⟩
      rw [HO.out]
      have hb2 := ((Below.refl w.heap.size w).alloc (Nat.le_refl _) (.cells #[.int .i64 (f 0), .int .i64 (f 1), .int .i64 (f 2)] 23)).trans (hb1.mono (by simp))
      obtain ⟨hcc, hfc⟩ := bcell hb1
      have z1 : w.heap.size < w1.heap.size := by have := hb1.size; simp at this; omega
      have x0 := (hcc w.heap.size 0 (by simp)).trans (by go_simp : _ = some (.int .i64 (f 0)))
      have x1 := (hcc w.heap.size 1 (by simp)).trans (by go_simp : _ = some (.int .i64 (f 1)))
      have x2 := (hcc w.heap.size 2 (by simp)).trans (by go_simp : _ = some (.int .i64 (f 2)))
      rw [H0.out] at x0
      clear hcc hfc hb1
      have g1 : (strB (figs (f 1).toNat)).size = 1 := by rw [strB_size]; simp [figs]
      have g2 : (strB (figs (f 2).toNat)).size = 1 := by rw [strB_size]; simp [figs]
      go_wp2_with fail
      go_region_held3 (fun w' => w'.cell? ⟨w.heap.size, 1, none⟩ = some (.int .i64 (f 1)) ∧ w'.cell? ⟨w.heap.size, 2, none⟩ = some (.int .i64 (f 2))) (first | go_keep | (exact ⟨s0, s1⟩)) (first | (go_at_call 39; ((with_reducible refine (spec_fmtI (f 1) _ b1 b9).mono ?_); rintro e wc0 ⟨rfl, hbc0⟩); replace hbc0 := below_drew hbc0; obtain ⟨hcc0, hfc0⟩ := bcell hbc0; have zc0 := hbc0.size; have s0 := (hcc0 (w.heap.size) 1 (by omega)).trans x1; have s1 := (hcc0 (w.heap.size) 2 (by omega)).trans x2) | (go_at_call 39; ((with_reducible refine (spec_fmtI (f 2) _ c1 c9).mono ?_); rintro e wc1 ⟨rfl, hbc1⟩); obtain ⟨hcc1, hfc1⟩ := bcell hbc1; have zc1 := hbc1.size; have s0 := (hcc1 (w.heap.size) 1 (by omega)).trans s0; have s1 := (hcc1 (w.heap.size) 2 (by omega)).trans s1))
      have hb6 := (hb2.trans (hbc0.mono hb2.size)).trans (hbc1.mono (by have := hb2.size; have := hbc0.size; omega))
      go_wp2
      go_ret
      exact ⟨by rw [HE.out, ← strB_app, ← strB_app]; rfl, hb6⟩
end Go.Proofs.YtheafiaemcmjaaaDoor
