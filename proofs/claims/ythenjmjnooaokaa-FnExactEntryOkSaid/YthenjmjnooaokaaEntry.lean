/- Contracts of EntryOk: the program's, the reference's and the law's functions on entries. -/
import Derived.Test.YthenjmjnooaokaaBlocks
import Derived.Test.YthenjmjnooaokaaBoxV
import Derived.Deep.Strs
namespace Go.Proofs.Ythenjmjnooaokaa
open Go.ChangeShapes Go.WideShapes Go.ChangeAt Go.RowKit
def entryOk (o d s : Int) (n : Nat) (f : Nat → Nat → Int) : Bool := inB o 0 99 && inB d 0 9999 && blockOk s n f
set_option maxHeartbeats 4000000 in
theorem impl_entryOk (o d s : Int) (A : Option Addr) (n c : Nat) (f : Nat → Nat → Int) (B : Nat) (w : World) (h : RowP 3 w B A n c f) (hB : B ≤ w.heap.size) :
    Calls Try.prog 14 #[.agg #[.int .i64 o, .int .i64 d, .int .i64 s, .slice A n c]] w fun e w' => e = .returned (.bool (entryOk o d s n f)) ∧ Below w.heap.size w w' := by
  have b0 : Below w.heap.size w (w.alloc (.cells #[.int .i64 o, .int .i64 d, .int .i64 s, .slice A n c] 33)) := (Below.refl _ _).alloc (Nat.le_refl _) _
  have h0 : RowP 3 (w.alloc (.cells #[.int .i64 o, .int .i64 d, .int .i64 s, .slice A n c] 33)) B A n c f := h.keep fun p hp => b0.cell (by omega)
  rcases Bool.eq_false_or_eq_true (inB o 0 99) with h1 | h1
  rotate_left
  · go_enter Try.func14, Try.ntmps14
    go_wp2_with (go_at_call 52; refine (within_any _ _ _ _).mono ?_; rintro e w' ⟨rfl, rfl⟩; rw [h1])
    go_ret
    exact ⟨ret_bool (by unfold entryOk; rw [h1]; simp), b0⟩
  rcases Bool.eq_false_or_eq_true (inB d 0 9999) with h2 | h2
  rotate_left
  · go_enter Try.func14, Try.ntmps14
    go_wp2_with (go_at_call 52; refine (within_any _ _ _ _).mono ?_; rintro e w' ⟨rfl, rfl⟩; first | rw [h1] | rw [h2])
    go_ret
    exact ⟨ret_bool (by unfold entryOk; rw [h1, h2]; simp), b0⟩
  go_enter Try.func14, Try.ntmps14
  go_wp2_with (go_at_call 52; refine (within_any _ _ _ _).mono ?_; rintro e w' ⟨rfl, rfl⟩; first | rw [h1] | rw [h2])
  refine (impl_blockOk s A n c f B _ h0 (by simp; omega)).mono ?_
  rintro e w2 ⟨rfl, hb2⟩
  have hb3 := b0.trans (hb2.mono (by simp))
  clear hb2 h0 b0
  go_wp2
  go_ret
  exact ⟨ret_bool (by unfold entryOk; rw [h1, h2]; simp), hb3⟩
set_option maxHeartbeats 4000000 in
theorem spec_entryOk (o d s : Int) (A : Option Addr) (n c : Nat) (f : Nat → Nat → Int) (B : Nat) (w : World) (h : RowP 3 w B A n c f) (hB : B ≤ w.heap.size) :
    Calls Try.prog 12 #[.agg #[.int .i64 o, .int .i64 d, .int .i64 s, .slice A n c]] w fun e w' => e = .returned (.bool (entryOk o d s n f)) ∧ Below w.heap.size w w' := by
  have b0 : Below w.heap.size w (w.alloc (.cells #[.int .i64 o, .int .i64 d, .int .i64 s, .slice A n c] 33)) := (Below.refl _ _).alloc (Nat.le_refl _) _
  have h0 : RowP 3 (w.alloc (.cells #[.int .i64 o, .int .i64 d, .int .i64 s, .slice A n c] 33)) B A n c f := h.keep fun p hp => b0.cell (by omega)
  rcases Bool.eq_false_or_eq_true (inB o 0 99) with h1 | h1
  rotate_left
  · go_enter Try.func12, Try.ntmps12
    go_wp2_with (go_at_call 50; refine (l01In_any _ _ _ _).mono ?_; rintro e w' ⟨rfl, rfl⟩; rw [h1])
    go_ret
    exact ⟨ret_bool (by unfold entryOk; rw [h1]; simp), b0⟩
  rcases Bool.eq_false_or_eq_true (inB d 0 9999) with h2 | h2
  rotate_left
  · go_enter Try.func12, Try.ntmps12
    go_wp2_with (go_at_call 50; refine (l01In_any _ _ _ _).mono ?_; rintro e w' ⟨rfl, rfl⟩; first | rw [h1] | rw [h2])
    go_ret
    exact ⟨ret_bool (by unfold entryOk; rw [h1, h2]; simp), b0⟩
  go_enter Try.func12, Try.ntmps12
  go_wp2_with (go_at_call 50; refine (l01In_any _ _ _ _).mono ?_; rintro e w' ⟨rfl, rfl⟩; first | rw [h1] | rw [h2])
  refine (spec_blockOk s A n c f B _ h0 (by simp; omega)).mono ?_
  rintro e w2 ⟨rfl, hb2⟩
  have hb3 := b0.trans (hb2.mono (by simp))
  clear hb2 h0 b0
  go_wp2
  go_ret
  exact ⟨ret_bool (by unfold entryOk; rw [h1, h2]; simp), hb3⟩
set_option maxHeartbeats 2000000 in
theorem sz_entry (o d s : Int) (A : Option Addr) (n c : Nat) (k : Int) (w : World) (hk : 0 ≤ k) (hk2 : k ≤ 1000000000) (hn : n ≤ 9223372036854775807) :
    Calls Try.prog 11 #[.agg #[.int .i64 o, .int .i64 d, .int .i64 s, .slice A n c], .int .i64 k] w fun e w' => e = .returned (.int .i64 (if k < n then -1 else k - n)) ∧ Below w.heap.size w w' := by
  have b0 : Below w.heap.size w (w.alloc (.cells #[.int .i64 o, .int .i64 d, .int .i64 s, .slice A n c] 26)) := (Below.refl _ _).alloc (Nat.le_refl _) _
  rcases (by omega : k < (n : Int) ∨ (n : Int) ≤ k) with h | h
  · go_enter Try.func11, Try.ntmps11
    go_wp2_with fail
    refine (sz_block s A n c k _ hk hk2 hn).mono ?_
    rintro e w' ⟨rfl, hb⟩
    have hb3 := b0.trans (hb.mono (by simp))
    rw [if_pos h]
    go_wp2
    go_ret
    exact ⟨rfl, hb3⟩
  · go_enter Try.func11, Try.ntmps11
    go_wp2_with fail
    refine (sz_block s A n c k _ hk hk2 hn).mono ?_
    rintro e w' ⟨rfl, hb⟩
    have hb3 := b0.trans (hb.mono (by simp))
    rw [if_neg (by omega)]
    go_wp2
    go_ret
    exact ⟨rfl, hb3⟩
set_option maxHeartbeats 8000000 in
theorem to_entry (o d s : Int) (A : Option Addr) (n c : Nat) (f : Nat → Nat → Int) (B : Nat) (w : World) (h : RowP 3 w B A n c f) (hB : B ≤ w.heap.size) (hn : n ≤ 1048576) :
    Calls Try.prog 13 #[.agg #[.int .i64 o, .int .i64 d, .int .i64 s, .slice A n c]] w fun e w' => ∃ g, e = .returned (.agg #[.int .i64 o, .int .i64 d, .int .i64 s, .slice (some ⟨g, 0, none⟩) n n]) ∧ OwnS 3 56 w' w.heap.size (.slice (some ⟨g, 0, none⟩) n n) n f ∧ Below w.heap.size w w' := by
  obtain ⟨w3, hw3⟩ : ∃ w3, w3 = ((w.alloc (.cells #[.int .i64 o, .int .i64 d, .int .i64 s, .slice A n c] 26)).alloc (.cells #[.int .i64 0, .int .i64 0, .int .i64 0, .slice none 0 0] 33)).alloc (.cells #[.int .i64 o, .int .i64 d, .int .i64 0, .slice none 0 0] 33) := ⟨_, rfl⟩
  have b3 : Below w.heap.size w w3 := by rw [hw3]; exact (((Below.refl _ _).alloc (Nat.le_refl _) _).alloc (by simp) _).alloc (by simp; omega) _
  have z3 : w.heap.size + 3 ≤ w3.heap.size := by rw [hw3]; simp
  have c10 : w3.cell? ⟨w.heap.size + 1, 0, none⟩ = some (.int .i64 0) := by rw [hw3]; go_simp
  have f10 : w3.frozen? ⟨w.heap.size + 1, 0, none⟩ = false := by rw [hw3]; go_simp
  have c11 : w3.cell? ⟨w.heap.size + 1, 1, none⟩ = some (.int .i64 0) := by rw [hw3]; go_simp
  have f11 : w3.frozen? ⟨w.heap.size + 1, 1, none⟩ = false := by rw [hw3]; go_simp
  have c12 : w3.cell? ⟨w.heap.size + 1, 2, none⟩ = some (.int .i64 0) := by rw [hw3]; go_simp
  have f12 : w3.frozen? ⟨w.heap.size + 1, 2, none⟩ = false := by rw [hw3]; go_simp
  have c13 : w3.cell? ⟨w.heap.size + 1, 3, none⟩ = some (.slice none 0 0) := by rw [hw3]; go_simp
  have f13 : w3.frozen? ⟨w.heap.size + 1, 3, none⟩ = false := by rw [hw3]; go_simp
  have c20 : w3.cell? ⟨w.heap.size + 1 + 1, 0, none⟩ = some (.int .i64 o) := by rw [hw3]; go_simp
  have f20 : w3.frozen? ⟨w.heap.size + 1 + 1, 0, none⟩ = false := by rw [hw3]; go_simp
  have c21 : w3.cell? ⟨w.heap.size + 1 + 1, 1, none⟩ = some (.int .i64 d) := by rw [hw3]; go_simp
  have f21 : w3.frozen? ⟨w.heap.size + 1 + 1, 1, none⟩ = false := by rw [hw3]; go_simp
  have c22 : w3.cell? ⟨w.heap.size + 1 + 1, 2, none⟩ = some (.int .i64 0) := by rw [hw3]; go_simp
  have f22 : w3.frozen? ⟨w.heap.size + 1 + 1, 2, none⟩ = false := by rw [hw3]; go_simp
  have c23 : w3.cell? ⟨w.heap.size + 1 + 1, 3, none⟩ = some (.slice none 0 0) := by rw [hw3]; go_simp
  have f23 : w3.frozen? ⟨w.heap.size + 1 + 1, 3, none⟩ = false := by rw [hw3]; go_simp
  go_enter Try.func13, Try.ntmps13
  go_wp2_with fail
  rw [← hw3]
  clear hw3
  refine (to_block s A n c f B w3 (h.below' b3 hB) (by omega) hn).mono ?_
  rintro e w4 ⟨g, rfl, ho4, hb4⟩
  obtain ⟨hc4, hf4⟩ := bcell hb4
  have hgg : w3.heap.size ≤ g := (ho4.ge' g rfl).1
  have d10 := (hc4 (w.heap.size + 1) 0 (by omega)).trans c10
  have g10 := (hf4 (w.heap.size + 1) 0 (by omega)).trans f10
  clear c10 f10
  have d11 := (hc4 (w.heap.size + 1) 1 (by omega)).trans c11
  have g11 := (hf4 (w.heap.size + 1) 1 (by omega)).trans f11
  clear c11 f11
  have d12 := (hc4 (w.heap.size + 1) 2 (by omega)).trans c12
  have g12 := (hf4 (w.heap.size + 1) 2 (by omega)).trans f12
  clear c12 f12
  have d13 := (hc4 (w.heap.size + 1) 3 (by omega)).trans c13
  have g13 := (hf4 (w.heap.size + 1) 3 (by omega)).trans f13
  clear c13 f13
  have d20 := (hc4 (w.heap.size + 1 + 1) 0 (by omega)).trans c20
  have g20 := (hf4 (w.heap.size + 1 + 1) 0 (by omega)).trans f20
  clear c20 f20
  have d21 := (hc4 (w.heap.size + 1 + 1) 1 (by omega)).trans c21
  have g21 := (hf4 (w.heap.size + 1 + 1) 1 (by omega)).trans f21
  clear c21 f21
  have d22 := (hc4 (w.heap.size + 1 + 1) 2 (by omega)).trans c22
  have g22 := (hf4 (w.heap.size + 1 + 1) 2 (by omega)).trans f22
  clear c22 f22
  have d23 := (hc4 (w.heap.size + 1 + 1) 3 (by omega)).trans c23
  have g23 := (hf4 (w.heap.size + 1 + 1) 3 (by omega)).trans f23
  clear c23 f23
  have b4 := b3.trans (hb4.mono (by omega))
  have hne : ∀ j x, ∀ p : Addr, p.block ≤ w.heap.size + 1 + 1 → OwnS 3 56 j w3.heap.size (.slice (some ⟨g, 0, none⟩) n n) n f → OwnS 3 56 (j.setCell p x) w3.heap.size (.slice (some ⟨g, 0, none⟩) n n) n f := fun j x p hp ho => ho.setOther fun k hk => by simp [Value.ownBlock] at hk; omega
  have ho5 := hne _ (.int .i64 s) ⟨w.heap.size + 1 + 1, 2, none⟩ (by show w.heap.size + 1 + 1 ≤ _; omega) ho4
  have b5 := b4.setCell (p := ⟨w.heap.size + 1 + 1, 2, none⟩) (by show w.heap.size ≤ w.heap.size + 1 + 1; omega) (.int .i64 s)
  have ho6 := hne _ (.slice (some ⟨g, 0, none⟩) n n) ⟨w.heap.size + 1 + 1, 3, none⟩ (by show w.heap.size + 1 + 1 ≤ _; omega) ho5
  have b6 := b5.setCell (p := ⟨w.heap.size + 1 + 1, 3, none⟩) (by show w.heap.size ≤ w.heap.size + 1 + 1; omega) (.slice (some ⟨g, 0, none⟩) n n)
  have ho7 := hne _ (.int .i64 o) ⟨w.heap.size + 1, 0, none⟩ (by show w.heap.size + 1 ≤ _; omega) ho6
  have b7 := b6.setCell (p := ⟨w.heap.size + 1, 0, none⟩) (by show w.heap.size ≤ w.heap.size + 1; omega) (.int .i64 o)
  have ho8 := hne _ (.int .i64 d) ⟨w.heap.size + 1, 1, none⟩ (by show w.heap.size + 1 ≤ _; omega) ho7
  have b8 := b7.setCell (p := ⟨w.heap.size + 1, 1, none⟩) (by show w.heap.size ≤ w.heap.size + 1; omega) (.int .i64 d)
  have ho9 := hne _ (.int .i64 s) ⟨w.heap.size + 1, 2, none⟩ (by show w.heap.size + 1 ≤ _; omega) ho8
  have b9 := b8.setCell (p := ⟨w.heap.size + 1, 2, none⟩) (by show w.heap.size ≤ w.heap.size + 1; omega) (.int .i64 s)
  have ho10 := hne _ (.slice (some ⟨g, 0, none⟩) n n) ⟨w.heap.size + 1, 3, none⟩ (by show w.heap.size + 1 ≤ _; omega) ho9
  have b10 := b9.setCell (p := ⟨w.heap.size + 1, 3, none⟩) (by show w.heap.size ≤ w.heap.size + 1; omega) (.slice (some ⟨g, 0, none⟩) n n)
  have hoE : OwnS 3 56 _ w.heap.size (.slice (some ⟨g, 0, none⟩) n n) n f := ho10.base_ (by omega)
  clear hc4 hf4 hb4 hne h
  clear ho4 ho5 ho6 ho7 ho8 ho9 ho10 b3 b4 b5 b6 b7 b8 b9
  go_wp2
  exact bodyPost_ret (v := .agg #[.int .i64 o, .int .i64 d, .int .i64 s, .slice (some ⟨g, 0, none⟩) n n]) (by simp [results, Try.results13, go_sem, d10, d11, d12, d13, d20, d21, d22, d23]) rfl ⟨_, rfl, hoE, b10⟩
set_option maxHeartbeats 4000000 in
theorem eq_entry (o d s : Int) (A A' : Option Addr) (n c c' : Nat) (f : Nat → Nat → Int) (B : Nat) (w : World) (h : RowP 3 w B A n c f) (h' : RowP 3 w B A' n c' f) (hB : B ≤ w.heap.size) :
    Calls Try.prog 15 #[.agg #[.int .i64 o, .int .i64 d, .int .i64 s, .slice A n c], .agg #[.int .i64 o, .int .i64 d, .int .i64 s, .slice A' n c']] w fun e w' => e = .returned (.bool true) ∧ Below w.heap.size w w' := by
  have hb0 : Below w.heap.size w ((w.alloc (.cells #[.int .i64 o, .int .i64 d, .int .i64 s, .slice A n c] 33)).alloc (.cells #[.int .i64 o, .int .i64 d, .int .i64 s, .slice A' n c'] 33)) := ((Below.refl _ _).alloc (Nat.le_refl _) _).alloc (by simp) _
  have h0 : RowP 3 ((w.alloc (.cells #[.int .i64 o, .int .i64 d, .int .i64 s, .slice A n c] 33)).alloc (.cells #[.int .i64 o, .int .i64 d, .int .i64 s, .slice A' n c'] 33)) B A n c f := h.keep fun p hp => hb0.cell (by omega)
  have h0' : RowP 3 ((w.alloc (.cells #[.int .i64 o, .int .i64 d, .int .i64 s, .slice A n c] 33)).alloc (.cells #[.int .i64 o, .int .i64 d, .int .i64 s, .slice A' n c'] 33)) B A' n c' f := h'.keep fun p hp => hb0.cell (by omega)
  go_enter Try.func15, Try.ntmps15
  go_wp2_with fail
  refine (eq_block s A A' n c c' f B _ h0 h0' (by simp; omega)).mono ?_
  rintro e w2 ⟨rfl, hb2⟩
  have hb3 := hb0.trans (hb2.mono (by simp; omega))
  clear hb2 hb0 h0 h0'
  go_wp2
  go_ret
  exact ⟨rfl, hb3⟩
section
variable {H : Type} {enc : TypeId × Value → H} {P : Program} {w : World} {base : Nat} {spare : Nat → Bool} {held : Bool}
/-- an argument of a struct whose third and last field is a struct of two cells -/
theorem open_aggIn {r : Reach} {b0 : Nat} {t : TypeId} {f0 f1 f2 g0 g1 : Field} {v : Value} {d : DataW H} {p : List MemPlace} (hs : P.underlying t = some (.struct #[f0, f1, f2])) (hs2 : P.underlying f2.type = some (.struct #[g0, g1]))
    (hC : P.cellsOf t = 4) (k0 : P.cellsOf f0.type = 1) (k1 : P.cellsOf f1.type = 1) (k2 : P.cellsOf f2.type = 2) (k3 : P.cellsOf g0.type = 1) (k4 : P.cellsOf g1.type = 1)
    (o0 : f0.offset = 0) (o1 : f1.offset = 1) (o2 : f2.offset = 2) (o3 : g0.offset = 0) (o4 : g1.offset = 1)
    (hv : Value.okWide P w r b0 t v) (h : DataW.Trod enc P w base spare held t v d p) :
    ∃ (v0 v1 v2 v3 : Value) (y0 y1 y2 y3 : DataW H × List MemPlace) (n m : Nat), v = .agg #[v0, v1, v2, v3] ∧ d = .agg [y0.1, y1.1, .agg [y2.1, y3.1]] ∧ p = y0.2 ++ (y1.2 ++ (y2.2 ++ y3.2)) ∧
      DataW.trod enc P w base spare held n f0.type [v0] = some y0 ∧ DataW.trod enc P w base spare held n f1.type [v1] = some y1 ∧ DataW.trod enc P w base spare held m g0.type [v2] = some y2 ∧ DataW.trod enc P w base spare held m g1.type [v3] = some y3 := by
  obtain ⟨cs, rfl, hsz⟩ := okWide_struct hs hv
  obtain ⟨c0, c1, c2, c3, rfl⟩ := Go.Joins.array4 (hsz.trans hC)
  obtain ⟨fuel, hf⟩ := h
  obtain ⟨y0, y1, y2, n, hx, _, h0, h1, h2⟩ := Go.Deep.trod_struct3 hs hf
  rw [o0, k0] at h0
  rw [o1, k1] at h1
  rw [o2, k2] at h2
  obtain ⟨z0, z1, m, hz, _, j0, j1⟩ := trod_struct2 hs2 h2
  rw [o3, k3] at j0
  rw [o4, k4] at j1
  simp only [Prod.mk.injEq] at hx
  subst hz
  exact ⟨c0, c1, c2, c3, y0, y1, z0, z1, n, m, rfl, hx.1, hx.2, by simpa [Value.cells] using h0, by simpa [Value.cells] using h1, by simpa [Value.cells] using j0, by simpa [Value.cells] using j1⟩
end
end Go.Proofs.Ythenjmjnooaokaa
