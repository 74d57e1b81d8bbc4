/- Contracts of BlockContrast and LeastContrast: the program's side. -/
import Derived.Test.YthenjmjnooaokaaContr
namespace Go.Proofs.Ythenjmjnooaokaa
open Go.ChangeShapes Go.WideShapes Go.ChangeAt Go.RowKit
set_option maxRecDepth 100000 in
set_option maxHeartbeats 8000000 in
theorem impl_blockC (s : Int) (A : Option Addr) (n c : Nat) (f : Nat → Nat → Int) (Av : Option Addr) (m cv : Nat) (zs : List Int) (B : Nat) (w : World) (hP : RowP 3 w B A n c f) (h : RowI .i64 w B Av m cv zs) (hB : B ≤ w.heap.size) :
    Calls Try.prog 25 #[.agg #[.int .i64 s, .slice A n c], .slice Av m cv] w fun e w' => e = .returned (.int .i64 (blockC s n f zs m)) ∧ Below w.heap.size w w' := by
  have hmf := makeFunc_run
  obtain ⟨wb, hwb⟩ : ∃ wb, wb = (w.alloc (.cells #[.int .i64 s, .slice A n c] 31)).alloc (.cells #[.slice Av m cv] 44) := ⟨_, rfl⟩
  have b0 : Below w.heap.size w wb := by rw [hwb]; exact ((Below.refl _ _).alloc (Nat.le_refl _) _).alloc (by simp) _
  have zb : wb.heap.size = w.heap.size + 2 := by rw [hwb]; simp
  have x0 : BoxB wb w.heap.size s (.slice A n c) := by rw [hwb]; exact ⟨by simp <;> omega, by go_simp, by go_simp⟩
  have v0 : wb.cell? ⟨w.heap.size + 1, 0, none⟩ = some (.slice Av m cv) := by rw [hwb]; go_simp
  have hP0 : RowP 3 wb B A n c f := hP.keep fun p hp => b0.cell (by omega)
  have hI0 : RowI .i64 wb B Av m cv zs := h.keep fun p hp => b0.cell (by omega)
  clear hP h
  rcases Bool.eq_false_or_eq_true (blockOk s n f) with hO | hO
  · have HO := Lib.hid hO
    rcases Bool.eq_false_or_eq_true (okList zs m 0 100) with hZ | hZ
    · obtain ⟨hm, hbd⟩ := okList_t hZ hI0.len
      have hbk := block_of hO
      obtain ⟨S, rfl⟩ : ∃ S : Nat, s = S := ⟨s.toNat, by have := hbk.s1; omega⟩
      have HE := Lib.hid (show blockC (S : Int) n f zs m = sumC zs (prs S f S) by unfold blockC; rw [hO, hZ, Int.toNat_natCast]; rfl)
      have hz6 : ∀ i, i < 6 → 0 ≤ nth zs i ∧ nth zs i ≤ 100 := fun i hi => hbd i (by omega)
      have HZ := Lib.hid hZ
      have hm6 : 6 ≤ m := by omega
      clear hO hZ hbd hbk hm
      go_enter Try.func25, Try.ntmps25
      go_wp2_with fail
      rw [← hwb]
      clear hwb
      refine (impl_blockOk S A n c f B _ hP0 (by omega)).mono ?_
      rintro e w1 ⟨rfl, hb1⟩
      rw [HO.out]
      have x1 := x0.below hb1 x0.1
      have v1 := (hb1.cell (p := ⟨w.heap.size + 1, 0, none⟩) (show w.heap.size + 1 < wb.heap.size by omega)).trans v0
      have hP1 : RowP 3 w1 B A n c f := hP0.keep fun p hp => hb1.cell (by omega)
      have hI1 : RowI .i64 w1 B Av m cv zs := hI0.keep fun p hp => hb1.cell (by omega)
      have b1 := b0.trans (hb1.mono (by omega))
      have z1 := hb1.size
      clear x0 v0 hP0 hI0 b0 hb1
      obtain ⟨xz, xc0, xc1⟩ := id x1
      go_wp2_with fail
      refine (impl_contrastOk Av m cv zs B _ hI1).mono ?_
      rintro e w' ⟨rfl, rfl⟩
      rw [HZ.out]
      go_wp2_with fail
      have b2 := b1.alloc b1.size (.cells #[.int .i64 0] 3)
      have hP2 : RowP 3 (w1.alloc (.cells #[.int .i64 0] 3)) B A n c f := hP1.keep fun p hp => ((Below.refl _ _).alloc (Nat.le_refl _) _).cell (by omega)
      have hI2 : RowI .i64 (w1.alloc (.cells #[.int .i64 0] 3)) B Av m cv zs := hI1.keep fun p hp => ((Below.refl _ _).alloc (Nat.le_refl _) _).cell (by omega)
      refine (contr_block S A n c f Av m cv zs B w1.heap.size (w.heap.size + 1) _ hP2 HO.out hI2 hm6 hz6 (by omega) (by simp) (by simp; omega) (((((Below.refl _ w1).alloc (Nat.le_refl _) (.cells #[.int .i64 0] 3)).cell (p := ⟨w.heap.size + 1, 0, none⟩) (show w.heap.size + 1 < w1.heap.size by omega))).trans v1) (by go_simp; rfl) (by go_simp) (by omega)).mono ?_
      rintro e w3 ⟨rfl, hc3, ho3⟩
      have b3 := below_only b2 ho3 (by simp; omega) (by omega)
      clear b1 b2 hP1 hP2 hI1 hI2 ho3 xz xc0 xc1 x1 v1
      go_wp2
      go_ret
      exact ⟨ret_int HE.out.symm, b3⟩
    · have HE := Lib.hid (show blockC s n f zs m = -1 by unfold blockC; rw [hZ, Bool.and_false]; rfl)
      have HZ := Lib.hid hZ
      clear hO hZ
      go_enter Try.func25, Try.ntmps25
      go_wp2_with fail
      rw [← hwb]
      clear hwb
      refine (impl_blockOk s A n c f B _ hP0 (by omega)).mono ?_
      rintro e w1 ⟨rfl, hb1⟩
      rw [HO.out]
      have v1 := (hb1.cell (p := ⟨w.heap.size + 1, 0, none⟩) (show w.heap.size + 1 < wb.heap.size by omega)).trans v0
      have hI1 : RowI .i64 w1 B Av m cv zs := hI0.keep fun p hp => hb1.cell (by omega)
      have b1 := b0.trans (hb1.mono (by omega))
      clear x0 v0 hP0 hI0 b0 hb1
      go_wp2_with fail
      refine (impl_contrastOk Av m cv zs B _ hI1).mono ?_
      rintro e w' ⟨rfl, rfl⟩
      rw [HZ.out]
      go_wp2
      go_ret
      exact ⟨ret_int HE.out.symm, b1⟩
  · have HE := Lib.hid (show blockC s n f zs m = -1 by unfold blockC; rw [hO]; rfl)
    have HO := Lib.hid hO
    clear hO
    go_enter Try.func25, Try.ntmps25
    go_wp2_with fail
    rw [← hwb]
    clear hwb
    refine (impl_blockOk s A n c f B _ hP0 (by omega)).mono ?_
    rintro e w1 ⟨rfl, hb1⟩
    rw [HO.out]
    have b1 := b0.trans (hb1.mono (by omega))
    clear x0 v0 hP0 hI0 b0 hb1
    go_wp2
    go_ret
    exact ⟨ret_int HE.out.symm, b1⟩
set_option maxRecDepth 100000 in
set_option maxHeartbeats 8000000 in
theorem impl_leastC (s : Int) (A : Option Addr) (n c : Nat) (f : Nat → Nat → Int) (Av : Option Addr) (m cv : Nat) (zs : List Int) (B : Nat) (w : World) (hP : RowP 3 w B A n c f) (h : RowI .i64 w B Av m cv zs) (hB : B ≤ w.heap.size) :
    Calls Try.prog 28 #[.agg #[.int .i64 s, .slice A n c], .slice Av m cv] w fun e w' => e = .returned (.int .i64 (blockL s n f zs m)) ∧ Below w.heap.size w w' := by
  have hmf := makeFunc_run
  obtain ⟨wb, hwb⟩ : ∃ wb, wb = (w.alloc (.cells #[.int .i64 s, .slice A n c] 31)).alloc (.cells #[.slice Av m cv] 44) := ⟨_, rfl⟩
  have b0 : Below w.heap.size w wb := by rw [hwb]; exact ((Below.refl _ _).alloc (Nat.le_refl _) _).alloc (by simp) _
  have zb : wb.heap.size = w.heap.size + 2 := by rw [hwb]; simp
  have x0 : BoxB wb w.heap.size s (.slice A n c) := by rw [hwb]; exact ⟨by simp <;> omega, by go_simp, by go_simp⟩
  have v0 : wb.cell? ⟨w.heap.size + 1, 0, none⟩ = some (.slice Av m cv) := by rw [hwb]; go_simp
  have hP0 : RowP 3 wb B A n c f := hP.keep fun p hp => b0.cell (by omega)
  have hI0 : RowI .i64 wb B Av m cv zs := h.keep fun p hp => b0.cell (by omega)
  clear hP h
  rcases Bool.eq_false_or_eq_true (blockOk s n f) with hO | hO
  · have HO := Lib.hid hO
    rcases Bool.eq_false_or_eq_true (okList zs m 0 100) with hZ | hZ
    · obtain ⟨hm, hbd⟩ := okList_t hZ hI0.len
      have hbk := block_of hO
      obtain ⟨S, rfl⟩ : ∃ S : Nat, s = S := ⟨s.toNat, by have := hbk.s1; omega⟩
      have HE := Lib.hid (show blockL (S : Int) n f zs m = max 0 (leastC zs (prs S f S)) by unfold blockL; rw [hO, hZ, Int.toNat_natCast]; rfl)
      have hz6 : ∀ i, i < 6 → 0 ≤ nth zs i ∧ nth zs i ≤ 100 := fun i hi => hbd i (by omega)
      have HZ := Lib.hid hZ
      have hm6 : 6 ≤ m := by omega
      clear hO hZ hbd hbk hm
      go_enter Try.func28, Try.ntmps28
      go_wp2_with fail
      rw [← hwb]
      clear hwb
      refine (impl_blockOk S A n c f B _ hP0 (by omega)).mono ?_
      rintro e w1 ⟨rfl, hb1⟩
      rw [HO.out]
      have x1 := x0.below hb1 x0.1
      have v1 := (hb1.cell (p := ⟨w.heap.size + 1, 0, none⟩) (show w.heap.size + 1 < wb.heap.size by omega)).trans v0
      have hP1 : RowP 3 w1 B A n c f := hP0.keep fun p hp => hb1.cell (by omega)
      have hI1 : RowI .i64 w1 B Av m cv zs := hI0.keep fun p hp => hb1.cell (by omega)
      have b1 := b0.trans (hb1.mono (by omega))
      have z1 := hb1.size
      clear x0 v0 hP0 hI0 b0 hb1
      obtain ⟨xz, xc0, xc1⟩ := id x1
      go_wp2_with fail
      refine (impl_contrastOk Av m cv zs B _ hI1).mono ?_
      rintro e w' ⟨rfl, rfl⟩
      rw [HZ.out]
      go_wp2_with fail
      have b2 := b1.alloc b1.size (.cells #[.int .i64 (-1)] 3)
      have hP2 : RowP 3 (w1.alloc (.cells #[.int .i64 (-1)] 3)) B A n c f := hP1.keep fun p hp => ((Below.refl _ _).alloc (Nat.le_refl _) _).cell (by omega)
      have hI2 : RowI .i64 (w1.alloc (.cells #[.int .i64 (-1)] 3)) B Av m cv zs := hI1.keep fun p hp => ((Below.refl _ _).alloc (Nat.le_refl _) _).cell (by omega)
      refine (contr_least S A n c f Av m cv zs B w1.heap.size (w.heap.size + 1) _ hP2 HO.out hI2 hm6 hz6 (by omega) (by simp) (by simp; omega) (((((Below.refl _ w1).alloc (Nat.le_refl _) (.cells #[.int .i64 (-1)] 3)).cell (p := ⟨w.heap.size + 1, 0, none⟩) (show w.heap.size + 1 < w1.heap.size by omega))).trans v1) (by go_simp; rfl) (by go_simp) (by omega)).mono ?_
      rintro e w3 ⟨rfl, hc3, ho3⟩
      have b3 := below_only b2 ho3 (by simp; omega) (by omega)
      clear b1 b2 hP1 hP2 hI1 hI2 ho3 xz xc0 xc1 x1 v1
      obtain ⟨T, hT⟩ : ∃ T, T = leastC zs (prs S f S) := ⟨_, rfl⟩
      rw [← hT] at hc3 HE
      clear hT
      rcases Int.lt_or_le T 0 with hn | hn
      · have HM := Lib.hid (show max 0 T = 0 by omega)
        go_wp2
        go_ret
        exact ⟨ret_int (by rw [HE.out, HM.out]), b3⟩
      · have HM := Lib.hid (show max 0 T = T by omega)
        have hn2 : ¬ T < 0 := by omega
        go_wp2
        go_ret
        exact ⟨ret_int (by rw [HE.out, HM.out]), b3⟩
    · have HE := Lib.hid (show blockL s n f zs m = -1 by unfold blockL; rw [hZ, Bool.and_false]; rfl)
      have HZ := Lib.hid hZ
      clear hO hZ
      go_enter Try.func28, Try.ntmps28
      go_wp2_with fail
      rw [← hwb]
      clear hwb
      refine (impl_blockOk s A n c f B _ hP0 (by omega)).mono ?_
      rintro e w1 ⟨rfl, hb1⟩
      rw [HO.out]
      have v1 := (hb1.cell (p := ⟨w.heap.size + 1, 0, none⟩) (show w.heap.size + 1 < wb.heap.size by omega)).trans v0
      have hI1 : RowI .i64 w1 B Av m cv zs := hI0.keep fun p hp => hb1.cell (by omega)
      have b1 := b0.trans (hb1.mono (by omega))
      clear x0 v0 hP0 hI0 b0 hb1
      go_wp2_with fail
      refine (impl_contrastOk Av m cv zs B _ hI1).mono ?_
      rintro e w' ⟨rfl, rfl⟩
      rw [HZ.out]
      go_wp2
      go_ret
      exact ⟨ret_int HE.out.symm, b1⟩
  · have HE := Lib.hid (show blockL s n f zs m = -1 by unfold blockL; rw [hO]; rfl)
    have HO := Lib.hid hO
    clear hO
    go_enter Try.func28, Try.ntmps28
    go_wp2_with fail
    rw [← hwb]
    clear hwb
    refine (impl_blockOk s A n c f B _ hP0 (by omega)).mono ?_
    rintro e w1 ⟨rfl, hb1⟩
    rw [HO.out]
    have b1 := b0.trans (hb1.mono (by omega))
    clear x0 v0 hP0 hI0 b0 hb1
    go_wp2
    go_ret
    exact ⟨ret_int HE.out.symm, b1⟩
end Go.Proofs.Ythenjmjnooaokaa
