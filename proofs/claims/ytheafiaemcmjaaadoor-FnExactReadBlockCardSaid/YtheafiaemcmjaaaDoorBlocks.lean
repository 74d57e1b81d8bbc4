/- Contracts of the law's functions on blocks. -/
import Derived.Test.YtheafiaemcmjaaaDoorCells
import Derived.Test.YtheafiaemcmjaaaDoorBlock
namespace Go.Proofs.YtheafiaemcmjaaaDoor
open Go.ChangeShapes Go.WideShapes Go.ChangeAt Go.RowKit
set_option maxHeartbeats 2000000 in
theorem sz_block (s : Int) (A : Option Addr) (n c : Nat) (k : Int) (w : World) (hk : 0 ≤ k) (hk2 : k ≤ 1000000000) (hn : n ≤ 9223372036854775807) :
    Calls Tryd.prog 17 #[.agg #[.int .i64 s, .slice A n c], .int .i64 k] w fun e w' => e = .returned (.int .i64 (if k < n then -1 else k - n)) ∧ Below w.heap.size w w' := by
  rcases (by omega : k < (n : Int) ∨ (n : Int) ≤ k) with h | h
  · go_enter Tryd.func17, Tryd.ntmps17
    go_wp2_with fail
    refine (sz_cells A n c k _ hk hk2 hn).mono ?_
    rintro e w' ⟨rfl, rfl⟩
    rw [if_pos h]
    go_wp2
    go_ret
    exact ⟨rfl, (Below.refl _ _).alloc (Nat.le_refl _) _⟩
  · go_enter Tryd.func17, Tryd.ntmps17
    go_wp2_with fail
    refine (sz_cells A n c k _ hk hk2 hn).mono ?_
    rintro e w' ⟨rfl, rfl⟩
    rw [if_neg (by omega)]
    go_wp2
    go_ret
    exact ⟨rfl, (Below.refl _ _).alloc (Nat.le_refl _) _⟩
set_option maxHeartbeats 4000000 in
theorem to_block (s : Int) (A : Option Addr) (n c : Nat) (f : Nat → Nat → Int) (B : Nat) (w : World) (h : RowP 3 w B A n c f) (hB : B ≤ w.heap.size) (hn : n ≤ 1048576) :
    Calls Tryd.prog 19 #[.agg #[.int .i64 s, .slice A n c]] w fun e w' => ∃ g, e = .returned (.agg #[.int .i64 s, .slice (some ⟨g, 0, none⟩) n n]) ∧ OwnS 3 23 w' w.heap.size (.slice (some ⟨g, 0, none⟩) n n) n f ∧ Below w.heap.size w w' := by
  obtain ⟨w3, hw3⟩ : ∃ w3, w3 = ((w.alloc (.cells #[.int .i64 s, .slice A n c] 41)).alloc (.cells #[.int .i64 0, .slice none 0 0] 46)).alloc (.cells #[.int .i64 s, .slice none 0 0] 46) := ⟨_, rfl⟩
  have b3 : Below w.heap.size w w3 := by rw [hw3]; exact (((Below.refl _ _).alloc (Nat.le_refl _) _).alloc (by simp) _).alloc (by simp; omega) _
  have z3 : w.heap.size + 3 ≤ w3.heap.size := by rw [hw3]; simp
  have c20 : w3.cell? ⟨w.heap.size + 1 + 1, 0, none⟩ = some (.int .i64 s) := by rw [hw3]; go_simp
  have c21 : w3.cell? ⟨w.heap.size + 1 + 1, 1, none⟩ = some (.slice none 0 0) := by rw [hw3]; go_simp
  have c10 : w3.cell? ⟨w.heap.size + 1, 0, none⟩ = some (.int .i64 0) := by rw [hw3]; go_simp
  have c11 : w3.cell? ⟨w.heap.size + 1, 1, none⟩ = some (.slice none 0 0) := by rw [hw3]; go_simp
  have f20 : w3.frozen? ⟨w.heap.size + 1 + 1, 1, none⟩ = false := by rw [hw3]; go_simp
  have f10 : w3.frozen? ⟨w.heap.size + 1, 0, none⟩ = false := by rw [hw3]; go_simp
  have f11 : w3.frozen? ⟨w.heap.size + 1, 1, none⟩ = false := by rw [hw3]; go_simp
  go_enter Tryd.func19, Tryd.ntmps19
  go_wp2_with fail
  rw [← hw3]
  clear hw3
  refine (to_cells A n c f B w3 (h.below' b3 hB) (by omega) hn).mono ?_
  rintro e w4 ⟨rfl, ho4, hb4⟩
  obtain ⟨hc4, hf4⟩ := bcell hb4
  have d20 := (hc4 (w.heap.size + 1 + 1) 0 (by omega)).trans c20
  have d21 := (hc4 (w.heap.size + 1 + 1) 1 (by omega)).trans c21
  have d10 := (hc4 (w.heap.size + 1) 0 (by omega)).trans c10
  have d11 := (hc4 (w.heap.size + 1) 1 (by omega)).trans c11
  have g20 := (hf4 (w.heap.size + 1 + 1) 1 (by omega)).trans f20
  have g10 := (hf4 (w.heap.size + 1) 0 (by omega)).trans f10
  have g11 := (hf4 (w.heap.size + 1) 1 (by omega)).trans f11
  have b4 := b3.trans (hb4.mono (by omega))
  have hne : ∀ j x, ∀ p : Addr, p.block ≤ w.heap.size + 1 + 1 → OwnS 3 23 j w3.heap.size (.slice (some ⟨w3.heap.size, 0, none⟩) n n) n f → OwnS 3 23 (j.setCell p x) w3.heap.size (.slice (some ⟨w3.heap.size, 0, none⟩) n n) n f := fun j x p hp ho => ho.setOther fun k hk => by simp [Value.ownBlock] at hk; omega
  have ho5 := hne _ (.slice (some ⟨w3.heap.size, 0, none⟩) n n) ⟨w.heap.size + 1, 1, none⟩ (by show w.heap.size + 1 ≤ _; omega) (hne _ (.int .i64 s) ⟨w.heap.size + 1, 0, none⟩ (by show w.heap.size + 1 ≤ _; omega) (hne _ (.slice (some ⟨w3.heap.size, 0, none⟩) n n) ⟨w.heap.size + 1 + 1, 1, none⟩ (Nat.le_refl _) ho4))
  have ho6 : OwnS 3 23 _ w.heap.size (.slice (some ⟨w3.heap.size, 0, none⟩) n n) n f := ho5.base_ (by omega)
  have b5 := ((b4.setCell (p := ⟨w.heap.size + 1 + 1, 1, none⟩) (by show w.heap.size ≤ w.heap.size + 1 + 1; omega) (.slice (some ⟨w3.heap.size, 0, none⟩) n n)).setCell (p := ⟨w.heap.size + 1, 0, none⟩) (by show w.heap.size ≤ w.heap.size + 1; omega) (.int .i64 s)).setCell (p := ⟨w.heap.size + 1, 1, none⟩) (by show w.heap.size ≤ w.heap.size + 1; omega) (.slice (some ⟨w3.heap.size, 0, none⟩) n n)
  clear hc4 hf4 hb4 hne ho4 ho5 b3 b4 c20 c21 c10 c11 f20 f10 f11 h
  go_wp2
  exact bodyPost_ret (v := .agg #[.int .i64 s, .slice (some ⟨w3.heap.size, 0, none⟩) n n]) (by simp [results, Tryd.results19, go_sem, d10, d11]) rfl ⟨_, rfl, ho6, b5⟩
set_option maxHeartbeats 4000000 in
theorem eq_block (s : Int) (A A' : Option Addr) (n c c' : Nat) (f : Nat → Nat → Int) (B : Nat) (w : World) (h : RowP 3 w B A n c f) (h' : RowP 3 w B A' n c' f) (hB : B ≤ w.heap.size) :
    Calls Tryd.prog 21 #[.agg #[.int .i64 s, .slice A n c], .agg #[.int .i64 s, .slice A' n c']] w fun e w' => e = .returned (.bool true) ∧ Below w.heap.size w w' := by
  have hb0 : Below w.heap.size w ((w.alloc (.cells #[.int .i64 s, .slice A n c] 46)).alloc (.cells #[.int .i64 s, .slice A' n c'] 46)) := ((Below.refl _ _).alloc (Nat.le_refl _) _).alloc (by simp) _
  have h0 : RowP 3 ((w.alloc (.cells #[.int .i64 s, .slice A n c] 46)).alloc (.cells #[.int .i64 s, .slice A' n c'] 46)) B A n c f := h.keep fun p hp => hb0.cell (by omega)
  have h0' : RowP 3 ((w.alloc (.cells #[.int .i64 s, .slice A n c] 46)).alloc (.cells #[.int .i64 s, .slice A' n c'] 46)) B A' n c' f := h'.keep fun p hp => hb0.cell (by omega)
  go_enter Tryd.func21, Tryd.ntmps21
  go_wp2_with fail
  refine (eq_cells A A' n c c' f B B _ h0 h0' (by simp; omega) (by simp; omega)).mono ?_
  rintro e w2 ⟨rfl, hb2⟩
  have hb3 := hb0.trans (hb2.mono (by simp; omega))
  clear hb2 hb0 h0 h0'
  go_wp2
  go_ret
  exact ⟨rfl, hb3⟩
end Go.Proofs.YtheafiaemcmjaaaDoor
