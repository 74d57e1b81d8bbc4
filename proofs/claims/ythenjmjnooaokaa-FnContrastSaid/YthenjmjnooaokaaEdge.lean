/- Contracts of EdgeContrast: the program's and the reference's. -/
import Derived.Test.YthenjmjnooaokaaInner
namespace Go.Proofs.Ythenjmjnooaokaa
open Go.ChangeShapes Go.WideShapes Go.ChangeAt Go.RowKit
theorem side_in (up : Bool) : inB (if up then (2 : Int) else 3) 0 3 = true ∧ inB (if up then (0 : Int) else 1) 0 3 = true := by cases up <;> decide
set_option maxHeartbeats 4000000 in
theorem impl_edge (f g : Nat → Int) (up : Bool) (A : Option Addr) (n c : Nat) (zs : List Int) (B : Nat) (w : World) (h : RowI .i64 w B A n c zs) (hB : B ≤ w.heap.size) :
    Calls Try.prog 34 #[.agg #[.int .i64 (f 0), .int .i64 (f 1), .int .i64 (f 2)], .agg #[.int .i64 (g 0), .int .i64 (g 1), .int .i64 (g 2)], .bool up, .slice A n c] w fun e w' => e = .returned (.int .i64 (edgeC f g up zs n)) ∧ Below w.heap.size w w' := by
  have hb0 : Below w.heap.size w ((w.alloc (.cells #[.int .i64 (f 0), .int .i64 (f 1), .int .i64 (f 2)] 56)).alloc (.cells #[.int .i64 (g 0), .int .i64 (g 1), .int .i64 (g 2)] 56)) := ((Below.refl _ _).alloc (Nat.le_refl _) _).alloc (by simp) _
  have f0 : Box3 ((w.alloc (.cells #[.int .i64 (f 0), .int .i64 (f 1), .int .i64 (f 2)] 56)).alloc (.cells #[.int .i64 (g 0), .int .i64 (g 1), .int .i64 (g 2)] 56)) w.heap.size f := ⟨by simp <;> omega, by go_simp, by go_simp, by go_simp⟩
  have g0 : Box3 ((w.alloc (.cells #[.int .i64 (f 0), .int .i64 (f 1), .int .i64 (f 2)] 56)).alloc (.cells #[.int .i64 (g 0), .int .i64 (g 1), .int .i64 (g 2)] 56)) (w.heap.size + 1) g := ⟨by simp, by go_simp, by go_simp, by go_simp⟩
  rcases Bool.eq_false_or_eq_true (cellOk f) with hF | hF
  · rcases Bool.eq_false_or_eq_true (cellOk g) with hG | hG
    · rcases Bool.eq_false_or_eq_true (okList zs n 0 100) with hZ | hZ
      · obtain ⟨hn, hbd⟩ := okList_t hZ h.len
        have hu0 := colorAt_bd hF (side_in up).1
        have hv0 := colorAt_bd hG (side_in up).2
        obtain ⟨u, hu⟩ : ∃ u, u = colorAt f (if up then 2 else 3) := ⟨_, rfl⟩
        obtain ⟨v, hv⟩ : ∃ v, v = colorAt g (if up then 0 else 1) := ⟨_, rfl⟩
        rw [← hu] at hu0
        rw [← hv] at hv0
        have HE := Lib.hid (show edgeC f g up zs n = gap (nth zs u.toNat) (nth zs v.toNat) by unfold edgeC; rw [hF, hG, hZ, hu, hv]; rfl)
        have HU := Lib.hid hu
        have HV := Lib.hid hv
        clear hu hv
        have b1 := hbd u.toNat (by omega)
        have b2 := hbd v.toNat (by omega)
        have p3 : u < (n : Int) := by omega
        have p4 : v < (n : Int) := by omega
        have HN := Lib.hid hn
        clear hbd hn
        go_enter Try.func34, Try.ntmps34
        go_wp2_with fail
        refine (impl_cellOk f _).mono ?_
        rintro e w1 ⟨rfl, hb1⟩
        have f1 := f0.below hb1 (by simp <;> omega)
        have g1 := g0.below hb1 (by simp)
        have hb2 := hb0.trans (hb1.mono (by simp <;> omega))
        have h1 : RowI .i64 w1 B A n c zs := h.keep fun p hp => hb2.cell (by omega)
        clear f0 g0 hb0 hb1
        obtain ⟨fz, fc0, fc1, fc2⟩ := id f1
        obtain ⟨gz, gc0, gc1, gc2⟩ := id g1
        go_wp2_with fail
        refine (impl_cellOk g _).mono ?_
        rintro e w2 ⟨rfl, hb3⟩
        have f2 := f1.below hb3 fz
        have g2 := g1.below hb3 gz
        have hb4 := hb2.trans (hb3.mono (by omega))
        have h2 : RowI .i64 w2 B A n c zs := h.keep fun p hp => hb4.cell (by omega)
        clear f1 g1 hb2 hb3 h1 fz fc0 fc1 fc2 gz gc0 gc1 gc2
        go_wp2_with fail
        refine (impl_contrastOk A n c zs B _ h2).mono ?_
        rintro e w' ⟨rfl, rfl⟩
        obtain ⟨fz, fc0, fc1, fc2⟩ := id f2
        obtain ⟨gz, gc0, gc1, gc2⟩ := id g2
        go_wp2_with fail
        refine (impl_sides f g up _).mono ?_
        rintro e w3 ⟨rfl, hb5⟩
        rw [← HU.out, ← HV.out]
        have hb6 := hb4.trans (hb5.mono (by omega))
        have h3 : RowI .i64 w3 B A n c zs := h.keep fun p hp => hb6.cell (by omega)
        obtain ⟨b, off, rfl, hbB, hx⟩ := h3.2.2.2.2 (by have := HN.out; omega)
        have x1 := hx u.toNat (by have := HN.out; omega)
        have x2 := hx v.toNat (by have := HN.out; omega)
        have ew : IntKind.i64.wrap (nth zs u.toNat - nth zs v.toNat) = nth zs u.toNat - nth zs v.toNat := IntWalk.i64_in _ (by omega)
        clear hx h3 h2 f2 g2 hb4 hb5 fz fc0 fc1 fc2 gz gc0 gc1 gc2
        go_wp2_with fail
        go_quiet ((go_at_call 69; with_reducible exact quiet_size (nth zs u.toNat) (nth zs v.toNat) _ _ b1 b2))
        clear ew
        go_wp2
        go_ret
        exact ⟨ret_int HE.out.symm, ⟨hb6.os, hb6.tape, hb6.output, hb6.size, hb6.block⟩⟩
      · have HE := Lib.hid (show edgeC f g up zs n = -1 by unfold edgeC; rw [hZ, Bool.and_false]; rfl)
        go_enter Try.func34, Try.ntmps34
        go_wp2_with fail
        refine (impl_cellOk f _).mono ?_
        rintro e w1 ⟨rfl, hb1⟩
        have f1 := f0.below hb1 (by simp <;> omega)
        have g1 := g0.below hb1 (by simp)
        have hb2 := hb0.trans (hb1.mono (by simp <;> omega))
        have h1 : RowI .i64 w1 B A n c zs := h.keep fun p hp => hb2.cell (by omega)
        clear f0 g0 hb0 hb1
        obtain ⟨fz, fc0, fc1, fc2⟩ := id f1
        obtain ⟨gz, gc0, gc1, gc2⟩ := id g1
        go_wp2_with fail
        refine (impl_cellOk g _).mono ?_
        rintro e w2 ⟨rfl, hb3⟩
        have f2 := f1.below hb3 fz
        have g2 := g1.below hb3 gz
        have hb4 := hb2.trans (hb3.mono (by omega))
        have h2 : RowI .i64 w2 B A n c zs := h.keep fun p hp => hb4.cell (by omega)
        clear f1 g1 hb2 hb3 h1 fz fc0 fc1 fc2 gz gc0 gc1 gc2
        go_wp2_with fail
        refine (impl_contrastOk A n c zs B _ h2).mono ?_
        rintro e w' ⟨rfl, rfl⟩
        go_wp2
        go_ret
        exact ⟨ret_int HE.out.symm, hb4⟩
    · have HE := Lib.hid (show edgeC f g up zs n = -1 by unfold edgeC; rw [hG, Bool.and_false]; rfl)
      go_enter Try.func34, Try.ntmps34
      go_wp2_with fail
      refine (impl_cellOk f _).mono ?_
      rintro e w1 ⟨rfl, hb1⟩
      have f1 := f0.below hb1 (by simp <;> omega)
      have g1 := g0.below hb1 (by simp)
      have hb2 := hb0.trans (hb1.mono (by simp <;> omega))
      have h1 : RowI .i64 w1 B A n c zs := h.keep fun p hp => hb2.cell (by omega)
      clear f0 g0 hb0 hb1
      obtain ⟨fz, fc0, fc1, fc2⟩ := id f1
      obtain ⟨gz, gc0, gc1, gc2⟩ := id g1
      go_wp2_with fail
      refine (impl_cellOk g _).mono ?_
      rintro e w2 ⟨rfl, hb3⟩
      have f2 := f1.below hb3 fz
      have g2 := g1.below hb3 gz
      have hb4 := hb2.trans (hb3.mono (by omega))
      have h2 : RowI .i64 w2 B A n c zs := h.keep fun p hp => hb4.cell (by omega)
      clear f1 g1 hb2 hb3 h1 fz fc0 fc1 fc2 gz gc0 gc1 gc2
      go_wp2
      go_ret
      exact ⟨ret_int HE.out.symm, hb4⟩
  · have HE := Lib.hid (show edgeC f g up zs n = -1 by unfold edgeC; rw [hF]; rfl)
    go_enter Try.func34, Try.ntmps34
    go_wp2_with fail
    refine (impl_cellOk f _).mono ?_
    rintro e w1 ⟨rfl, hb1⟩
    have f1 := f0.below hb1 (by simp <;> omega)
    have g1 := g0.below hb1 (by simp)
    have hb2 := hb0.trans (hb1.mono (by simp <;> omega))
    have h1 : RowI .i64 w1 B A n c zs := h.keep fun p hp => hb2.cell (by omega)
    clear f0 g0 hb0 hb1
    go_wp2
    go_ret
    exact ⟨ret_int HE.out.symm, hb2⟩
end Go.Proofs.Ythenjmjnooaokaa
