/- Contract of CellAt: the program's side. -/
import Derived.Test.YtheafiaemcmjaaaDoorBlock
import Derived.Test.YtheafiaemcmjaaaDoorPureBl
import Derived.StillTailTactics
import Derived.Test.YtheafiaemcmjaaaDoorOnly
import Derived.Test.YtheafiaemcmjaaaDoorAppS
import Derived.Outline
namespace Go.Proofs.YtheafiaemcmjaaaDoor
open Go.ChangeShapes Go.WideShapes Go.ChangeAt Go.RowKit
theorem place_in {s y x : Nat} (hy : y < s) (hx : x < s) : y * s + x < s * s := by
  have : y * s + s ≤ s * s := by rw [← Nat.succ_mul]; exact Nat.mul_le_mul_right _ hy
  omega
set_option maxHeartbeats 4000000 in
theorem impl_place (S : Nat) (A : Option Addr) (n c : Nat) (f : Nat → Nat → Int) (x y B : Nat) (w : World) (h : RowP 3 w B A n c f) (hB : B ≤ w.heap.size) (hO : blockOk S n f = true) (hx : x < S) (hy : y < S) :
    Calls Tryd.prog 68 #[.agg #[.int .i64 S, .slice A n c], .int .i64 x, .int .i64 y] w fun e w' => e = .returned (.bool true) ∧ Below w.heap.size w w' := by
  have hb0 : Below w.heap.size w (w.alloc (.cells #[.int .i64 S, .slice A n c] 46)) := (Below.refl _ _).alloc (Nat.le_refl _) _
  have hx0 : BoxB (w.alloc (.cells #[.int .i64 S, .slice A n c] 46)) w.heap.size S (.slice A n c) := ⟨by simp, by go_simp, by go_simp⟩
  have h0 : RowP 3 (w.alloc (.cells #[.int .i64 S, .slice A n c] 46)) B A n c f := h.keep fun p hp => hb0.cell (by omega)
  have hP := block_of hO
  have s4 := hP.s4
  have e1 : inB (x : Int) 0 ((S : Int) - 1) = true := inB_mk (by omega) (by omega)
  have e2 : inB (y : Int) 0 ((S : Int) - 1) = true := inB_mk (by omega) (by omega)
  have ew : IntKind.i64.wrap ((S : Int) - 1) = (S : Int) - 1 := IntWalk.i64_in _ (by omega)
  have HO := Lib.hid hO
  clear hO hP
  go_enter Tryd.func68, Tryd.ntmps68
  go_wp2_with fail
  refine (impl_blockOk S A n c f B _ h0 (by simp; omega)).mono ?_
  rintro e w1 ⟨rfl, hb1⟩
  rw [HO.out]
  have hx1 := hx0.below hb1 (by simp)
  have hb2 := hb0.trans (hb1.mono (by simp))
  clear hb0 hb1 hx0 h0
  obtain ⟨xz, xc0, xc1⟩ := id hx1
  go_wp2_with (go_at_call 64; refine (within_any _ _ _ _).mono ?_; rintro e w' ⟨rfl, rfl⟩; first | rw [e1] | rw [e2])
  go_ret
  exact ⟨rfl, hb2⟩
set_option maxHeartbeats 4000000 in
theorem impl_cellAt (S : Nat) (A : Option Addr) (n c : Nat) (f : Nat → Nat → Int) (x y B : Nat) (w : World) (h : RowP 3 w B A n c f) (hB : B ≤ w.heap.size) (hO : blockOk S n f = true) (hx : x < S) (hy : y < S) :
    Calls Tryd.prog 48 #[.agg #[.int .i64 S, .slice A n c], .int .i64 x, .int .i64 y] w fun e w' => e = .returned (.agg #[.int .i64 (f (y * S + x) 0), .int .i64 (f (y * S + x) 1), .int .i64 (f (y * S + x) 2)]) ∧ Below w.heap.size w w' := by
  obtain ⟨w3, hw3⟩ : ∃ w3, w3 = (w.alloc (.cells #[.int .i64 S, .slice A n c] 46)).alloc (.cells #[.int .i64 0, .int .i64 0, .int .i64 0] 23) := ⟨_, rfl⟩
  have hb0 : Below w.heap.size w w3 := by rw [hw3]; exact ((Below.refl _ _).alloc (Nat.le_refl _) _).alloc (by simp) _
  have z3 : w.heap.size + 2 ≤ w3.heap.size := by rw [hw3]; simp
  have hx0 : BoxB w3 w.heap.size S (.slice A n c) := by rw [hw3]; exact ⟨by simp <;> omega, by go_simp, by go_simp⟩
  have G0 : w3.heap[w.heap.size + 1]? = some (.cells #[.int .i64 0, .int .i64 0, .int .i64 0] 23 (0, 0)) := by rw [hw3]; simpa using heap_alloc_new (w.alloc (.cells #[.int .i64 S, .slice A n c] 46)) (.cells #[.int .i64 0, .int .i64 0, .int .i64 0] 23)
  have h0 : RowP 3 w3 B A n c f := h.keep fun p hp => hb0.cell (by omega)
  have hP := block_of hO
  have s4 := hP.s4
  have hkn : y * S + x < n := by have h1 := place_in hy hx; have h2 := hP.sq; have h3 : ((S * S : Nat) : Int) = (S : Int) * (S : Int) := by simp
                                 omega
  have n16 := hP.n16
  obtain ⟨k, hk⟩ : ∃ k, k = y * S + x := ⟨_, rfl⟩
  rw [← hk] at hkn ⊢
  obtain ⟨m, hm⟩ : ∃ m, m = y * S := ⟨_, rfl⟩
  rw [← hm] at hk
  have t1 : (y : Int) * (S : Int) = (m : Int) := by rw [hm]; simp
  have t2 : IntKind.i64.wrap ((y : Int) * (S : Int)) = (m : Int) := by rw [t1]; exact IntWalk.i64_in _ (by omega)
  have t3 : (m : Int) + (x : Int) = (k : Int) := by omega
  have t4 : IntKind.i64.wrap ((m : Int) + (x : Int)) = (k : Int) := by rw [t3]; exact IntWalk.i64_in _ (by omega)
  have k0 : (0 : Int) ≤ (k : Int) := by omega
  have k3 : (k : Int) < (n : Int) := by omega
  have HO := Lib.hid hO
  clear hP hm hk hO
  go_enter Tryd.func48, Tryd.ntmps48
  go_wp2_with fail
  rw [← hw3]
  clear hw3
  refine (impl_place S A n c f x y B w3 h0 (by omega) HO.out hx hy).mono ?_
  rintro e w4 ⟨rfl, hb1⟩
  have hx1 := hx0.below hb1 (by omega)
  have G1 := blk_below G0 hb1 (by omega)
  have hb2 := hb0.trans (hb1.mono (by omega))
  have h2 : RowP 3 w4 B A n c f := h.keep fun p hp => hb2.cell (by omega)
  have hz4 := hb1.size
  obtain ⟨xz, xc0, xc1⟩ := id hx1
  obtain ⟨b, off, rfl, hbB, hc⟩ := h2.at_ hkn
  have x0 : w4.cell? ⟨b, off + k * 3, none⟩ = some (.int .i64 (f k 0)) := by exact hc 0 (by omega)
  have x1 : w4.cell? ⟨b, off + k * 3 + 1, none⟩ = some (.int .i64 (f k 1)) := by rw [Nat.add_assoc]; exact hc 1 (by omega)
  have x2 : w4.cell? ⟨b, off + k * 3 + 2, none⟩ = some (.int .i64 (f k 2)) := by rw [Nat.add_assoc]; exact hc 2 (by omega)
  have g0 := blk_cell G1 0
  have g1 := blk_cell G1 1
  have g2 := blk_cell G1 2
  simp only [List.getElem?_toArray, List.getElem?_cons_zero, List.getElem?_cons_succ] at g0 g1 g2
  have fr0 := blk_frozen (j := 0) G1
  have fr1 := blk_frozen (j := 1) G1
  have fr2 := blk_frozen (j := 2) G1
  have hb5 := ((hb2.setCell (p := ⟨w.heap.size + 1, 0, none⟩) (by show w.heap.size ≤ w.heap.size + 1; omega) (.int .i64 (f k 0))).setCell (p := ⟨w.heap.size + 1, 1, none⟩) (by show w.heap.size ≤ w.heap.size + 1; omega) (.int .i64 (f k 1))).setCell (p := ⟨w.heap.size + 1, 2, none⟩) (by show w.heap.size ≤ w.heap.size + 1; omega) (.int .i64 (f k 2))
  clear hb0 hb1 hx0 h0 h2 hc hb2 G0 G1 hx1
  go_wp2
  refine bodyPost_ret (v := .agg #[.int .i64 (f k 0), .int .i64 (f k 1), .int .i64 (f k 2)]) (by simp [results, Tryd.results48, go_sem, g0, g1, g2]) rfl ⟨rfl, hb5⟩
end Go.Proofs.YtheafiaemcmjaaaDoor
