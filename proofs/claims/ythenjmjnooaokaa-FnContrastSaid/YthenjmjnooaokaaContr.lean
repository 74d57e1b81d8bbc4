/- Contracts of the contrasts of blocks: the program's side. -/
import Derived.Test.YthenjmjnooaokaaEdge
import Derived.Test.YthenjmjnooaokaaBlock
import Derived.Test.YthenjmjnooaokaaPureCt
import Derived.Test.YthenjmjnooaokaaOnly
import Derived.Test.YthenjmjnooaokaaAppS
import Derived.StillTailTactics
namespace Go.Proofs.Ythenjmjnooaokaa
open Go.ChangeShapes Go.WideShapes Go.ChangeAt Go.RowKit
theorem makeFunc_run (fn : Fn) (first cap : Array Value) (w : World) : (Instr.makeFunc fn first cap).run Try.prog w = .ok (.func fn first cap) w := rfl
theorem only_drew {lo hi : Nat} {W W' : World} (h : OnlyIn lo hi W.drew W') : OnlyIn lo hi W W' := ⟨h.os, h.tape, h.output, h.size, h.block⟩
theorem only_cell {lo hi : Nat} {w w' : World} (h : OnlyIn lo hi w w') {b : Nat} (hb : b < w.heap.size) (hne : b < lo ∨ hi ≤ b) (j : Nat) : w'.cell? ⟨b, j, none⟩ = w.cell? ⟨b, j, none⟩ := World.cell?_of_block (h.block b hb hne)
theorem only_frozen {lo hi : Nat} {w w' : World} (h : OnlyIn lo hi w w') {b : Nat} (hb : b < w.heap.size) (hne : b < lo ∨ hi ≤ b) (j : Nat) : w'.frozen? ⟨b, j, none⟩ = w.frozen? ⟨b, j, none⟩ := World.frozen?_of_block (h.block b hb hne)
set_option maxHeartbeats 4000000 in
theorem impl_place (S : Nat) (A : Option Addr) (n c : Nat) (f : Nat → Nat → Int) (x y B : Nat) (w : World) (h : RowP 3 w B A n c f) (hB : B ≤ w.heap.size) (hO : blockOk S n f = true) (hx : x < S) (hy : y < S) :
    Calls Try.prog 108 #[.agg #[.int .i64 S, .slice A n c], .int .i64 x, .int .i64 y] w fun e w' => e = .returned (.bool true) ∧ Below w.heap.size w w' := by
  have hb0 : Below w.heap.size w (w.alloc (.cells #[.int .i64 S, .slice A n c] 31)) := (Below.refl _ _).alloc (Nat.le_refl _) _
  have hx0 : BoxB (w.alloc (.cells #[.int .i64 S, .slice A n c] 31)) w.heap.size S (.slice A n c) := ⟨by simp, by go_simp, by go_simp⟩
  have h0 : RowP 3 (w.alloc (.cells #[.int .i64 S, .slice A n c] 31)) B A n c f := h.keep fun p hp => hb0.cell (by omega)
  have hP := block_of hO
  have s4 := hP.s4
  have e1 : inB (x : Int) 0 ((S : Int) - 1) = true := inB_mk (by omega) (by omega)
  have e2 : inB (y : Int) 0 ((S : Int) - 1) = true := inB_mk (by omega) (by omega)
  have ew : IntKind.i64.wrap ((S : Int) - 1) = (S : Int) - 1 := IntWalk.i64_in _ (by omega)
  have HO := Lib.hid hO
  clear hO hP
  go_enter Try.func108, Try.ntmps108
  go_wp2_with fail
  refine (impl_blockOk S A n c f B _ h0 (by simp; omega)).mono ?_
  rintro e w1 ⟨rfl, hb1⟩
  rw [HO.out]
  have hx1 := hx0.below hb1 (by simp)
  have hb2 := hb0.trans (hb1.mono (by simp))
  clear hb0 hb1 hx0 h0
  obtain ⟨xz, xc0, xc1⟩ := id hx1
  go_wp2_with (go_at_call 52; refine (within_any _ _ _ _).mono ?_; rintro e w' ⟨rfl, rfl⟩; first | rw [e1] | rw [e2])
  go_ret
  exact ⟨rfl, hb2⟩
set_option maxHeartbeats 4000000 in
theorem impl_cellAt (S : Nat) (A : Option Addr) (n c : Nat) (f : Nat → Nat → Int) (x y B : Nat) (w : World) (h : RowP 3 w B A n c f) (hB : B ≤ w.heap.size) (hO : blockOk S n f = true) (hx : x < S) (hy : y < S) :
    Calls Try.prog 96 #[.agg #[.int .i64 S, .slice A n c], .int .i64 x, .int .i64 y] w fun e w' => e = .returned (.agg #[.int .i64 (f (y * S + x) 0), .int .i64 (f (y * S + x) 1), .int .i64 (f (y * S + x) 2)]) ∧ Below w.heap.size w w' := by
  obtain ⟨w3, hw3⟩ : ∃ w3, w3 = (w.alloc (.cells #[.int .i64 S, .slice A n c] 31)).alloc (.cells #[.int .i64 0, .int .i64 0, .int .i64 0] 56) := ⟨_, rfl⟩
  have hb0 : Below w.heap.size w w3 := by rw [hw3]; exact ((Below.refl _ _).alloc (Nat.le_refl _) _).alloc (by simp) _
  have z3 : w.heap.size + 2 ≤ w3.heap.size := by rw [hw3]; simp
  have hx0 : BoxB w3 w.heap.size S (.slice A n c) := by rw [hw3]; exact ⟨by simp <;> omega, by go_simp, by go_simp⟩
  have G0 : w3.heap[w.heap.size + 1]? = some (.cells #[.int .i64 0, .int .i64 0, .int .i64 0] 56 (0, 0)) := by rw [hw3]; simpa using heap_alloc_new (w.alloc (.cells #[.int .i64 S, .slice A n c] 31)) (.cells #[.int .i64 0, .int .i64 0, .int .i64 0] 56)
  have h0 : RowP 3 w3 B A n c f := h.keep fun p hp => hb0.cell (by omega)
  have hP := block_of hO
  have s4 := hP.s4
  have hkn : y * S + x < n := by have h1 := place_in hy hx; have h2 := hP.sq; have h3 : ((S * S : Nat) : Int) = (S : Int) * (S : Int) := by simp
                                 omega
  have n16 := hP.n16
  obtain ⟨k, hk⟩ : ∃ k, k = y * S + x := ⟨_, rfl⟩
  rw [← hk] at hkn ⊢
  obtain ⟨m, hm⟩ : ∃ m, m = y * S := ⟨_, rfl⟩
  rw [← hm] at hk
  have t1 : (y : Int) * (S : Int) = (m : Int) := by rw [hm]; simp
  have t2 : IntKind.i64.wrap ((y : Int) * (S : Int)) = (m : Int) := by rw [t1]; exact IntWalk.i64_in _ (by omega)
  have t3 : (m : Int) + (x : Int) = (k : Int) := by omega
  have t4 : IntKind.i64.wrap ((m : Int) + (x : Int)) = (k : Int) := by rw [t3]; exact IntWalk.i64_in _ (by omega)
  have k0 : (0 : Int) ≤ (k : Int) := by omega
  have k3 : (k : Int) < (n : Int) := by omega
  have HO := Lib.hid hO
  clear hP hm hk hO
  go_enter Try.func96, Try.ntmps96
  go_wp2_with fail
  rw [← hw3]
  clear hw3
  refine (impl_place S A n c f x y B w3 h0 (by omega) HO.out hx hy).mono ?_
  rintro e w4 ⟨rfl, hb1⟩
  have hx1 := hx0.below hb1 (by omega)
  have G1 := blk_below G0 hb1 (by omega)
  have hb2 := hb0.trans (hb1.mono (by omega))
  have h2 : RowP 3 w4 B A n c f := h.keep fun p hp => hb2.cell (by omega)
  have hz4 := hb1.size
  obtain ⟨xz, xc0, xc1⟩ := id hx1
  obtain ⟨b, off, rfl, hbB, hc⟩ := h2.at_ hkn
  have x0 : w4.cell? ⟨b, off + k * 3, none⟩ = some (.int .i64 (f k 0)) := by exact hc 0 (by omega)
  have x1 : w4.cell? ⟨b, off + k * 3 + 1, none⟩ = some (.int .i64 (f k 1)) := by rw [Nat.add_assoc]; exact hc 1 (by omega)
  have x2 : w4.cell? ⟨b, off + k * 3 + 2, none⟩ = some (.int .i64 (f k 2)) := by rw [Nat.add_assoc]; exact hc 2 (by omega)
  have g0 := blk_cell G1 0
  have g1 := blk_cell G1 1
  have g2 := blk_cell G1 2
  simp only [List.getElem?_toArray, List.getElem?_cons_zero, List.getElem?_cons_succ] at g0 g1 g2
  have fr0 := blk_frozen (j := 0) G1
  have fr1 := blk_frozen (j := 1) G1
  have fr2 := blk_frozen (j := 2) G1
  have hb5 := ((hb2.setCell (p := ⟨w.heap.size + 1, 0, none⟩) (by show w.heap.size ≤ w.heap.size + 1; omega) (.int .i64 (f k 0))).setCell (p := ⟨w.heap.size + 1, 1, none⟩) (by show w.heap.size ≤ w.heap.size + 1; omega) (.int .i64 (f k 1))).setCell (p := ⟨w.heap.size + 1, 2, none⟩) (by show w.heap.size ≤ w.heap.size + 1; omega) (.int .i64 (f k 2))
  clear hb0 hb1 hx0 h0 h2 hc hb2 G0 G1 hx1
  go_wp2
  refine bodyPost_ret (v := .agg #[.int .i64 (f k 0), .int .i64 (f k 1), .int .i64 (f k 2)]) (by simp [results, Try.results96, go_sem, g0, g1, g2]) rfl ⟨rfl, hb5⟩
theorem OnlyIn.alloc {lo hi : Nat} {w wr : World} (h : OnlyIn lo hi w wr) (o : Obj) : OnlyIn lo hi w (wr.alloc o) := h.trans (OnlyIn.of_below ((Below.refl _ _).alloc (Nat.le_refl _) _))
theorem OnlyIn.below {lo hi : Nat} {w wr w2 : World} (h : OnlyIn lo hi w wr) (hb : Below wr.heap.size wr w2) : OnlyIn lo hi w w2 := h.trans (OnlyIn.of_below hb)
theorem only_set {o j : Nat} {w w' : World} (h : OnlyIn o (o + 1) w w') (x : Value) : OnlyIn o (o + 1) w (w'.setCell ⟨o, j, none⟩ x) :=
  ⟨h.os, h.tape, h.output, by simpa [World.setCell] using h.size, fun i hi hne => (Below.heap_setCell w' ⟨o, j, none⟩ x i (by show i ≠ o; omega)).trans (h.block i hi hne)⟩
theorem only_drewN {lo hi : Nat} (w : World) (q : Nat) : OnlyIn lo hi w (w.drewN q) := ⟨rfl, rfl, rfl, Nat.le_refl _, fun _ _ _ => rfl⟩
theorem set_cell {w : World} {o : Nat} {x y : Value} (h : w.cell? ⟨o, 0, none⟩ = some y) : (w.setCell ⟨o, 0, none⟩ x).cell? ⟨o, 0, none⟩ = some x := by go_simp
theorem set_frozen {w : World} {o : Nat} {x y : Value} (h : w.cell? ⟨o, 0, none⟩ = some y) (hf : w.frozen? ⟨o, 0, none⟩ = false) : (w.setCell ⟨o, 0, none⟩ x).frozen? ⟨o, 0, none⟩ = false := by go_simp
theorem only_rowI {lo hi : Nat} {w wr : World} {k : IntKind} {B n c : Nat} {A : Option Addr} {zs : List Int} (h : RowI k w B A n c zs) (ho : OnlyIn lo hi w wr) (hB : B ≤ lo) (hw : B ≤ w.heap.size) : RowI k wr B A n c zs :=
  h.keep fun p hp => World.cell?_of_block (ho.block p.block (by omega) (by omega))
theorem only_rowP {lo hi m : Nat} {w wr : World} {B n c : Nat} {A : Option Addr} {f : Nat → Nat → Int} (h : RowP m w B A n c f) (ho : OnlyIn lo hi w wr) (hB : B ≤ lo) (hw : B ≤ w.heap.size) : RowP m wr B A n c f :=
  h.keep fun p hp => World.cell?_of_block (ho.block p.block (by omega) (by omega))
set_option maxRecDepth 100000 in
set_option maxHeartbeats 8000000 in
theorem blockfn (A : Option Addr) (m c : Nat) (zs : List Int) (B o v : Nat) (a d : Int) (L : List (List Int)) (w : World) (h : RowI .i64 w B A m c zs) (hm : 6 ≤ m) (hz : ∀ i, i < 6 → 0 ≤ nth zs i ∧ nth zs i ≤ 100) (hov : o ≠ v) (ho : o < w.heap.size) (hv : w.cell? ⟨v, 0, none⟩ = some (.slice A m c))
    (hc : w.cell? ⟨o, 0, none⟩ = some (.int .i64 (sumC zs L))) (hf : w.frozen? ⟨o, 0, none⟩ = false) (hbd : -1 ≤ sumC zs L ∧ sumC zs L ≤ 100000) (ha : 0 ≤ a ∧ a ≤ 5) (hd : 0 ≤ d ∧ d ≤ 5) :
    Calls Try.prog 68 #[.int .i64 a, .int .i64 d, .pointer (some ⟨o, 0, none⟩), .pointer (some ⟨v, 0, none⟩)] w fun e w' => e = .returned (.tuple #[]) ∧ w'.cell? ⟨o, 0, none⟩ = some (.int .i64 (sumC zs (L ++ [[a, d]]))) ∧ w'.frozen? ⟨o, 0, none⟩ = false ∧ OnlyIn o (o + 1) w w' := by
  obtain ⟨b, off, rfl, hbB, hx⟩ := h.2.2.2.2 (by omega)
  have x1 := hx a.toNat (by omega)
  have x2 := hx d.toNat (by omega)
  have b1 := hz a.toNat (by omega)
  have b2 := hz d.toNat (by omega)
  have p3 : a < (m : Int) := by omega
  have p4 : d < (m : Int) := by omega
  have hg := gap_bd b1 b2
  have HG := Lib.hid (show gapOf zs [a, d] = gap (nth zs a.toNat) (nth zs d.toNat) from rfl)
  have ew : IntKind.i64.wrap (nth zs a.toNat - nth zs d.toNat) = nth zs a.toNat - nth zs d.toNat := IntWalk.i64_in _ (by omega)
  have HS := Lib.hid (show sumC zs (L ++ [[a, d]]) = sumC zs L + gap (nth zs a.toNat) (nth zs d.toNat) by rw [sumC_snoc, HG.out])
  obtain ⟨T, hT⟩ : ∃ T, T = sumC zs L := ⟨_, rfl⟩
  rw [← hT] at hc hbd HS
  have ew2 : IntKind.i64.wrap (T + gap (nth zs a.toNat) (nth zs d.toNat)) = T + gap (nth zs a.toNat) (nth zs d.toNat) := IntWalk.i64_in _ (by omega)
  clear hx hz h hT
  go_enter Try.func68, Try.ntmps68
  go_wp2_with fail
  refine wp_region_still_tail 12 (by kernel_rfl) (by kernel_rfl) ?_
  simp only [List.take_succ_cons, List.take_zero, List.drop_succ_cons, List.drop_zero]
  iterate 10 still_step
  still_call ((size_gap (nth zs a.toNat) (nth zs d.toNat) _ b1 b2).mono fun _ _ ⟨x, y⟩ => ⟨x, y.symm⟩)
  still_step
  refine wpStill_nil ?_
  change wpList _ _ _ _ _ w.drew
  go_wp2
  go_end0
  exact ⟨rfl, (set_cell (w := w.drew) hc).trans (by rw [HS.out]), set_frozen (w := w.drew) hc hf, only_set (only_drewN w 1) _⟩
set_option maxRecDepth 100000 in
set_option maxHeartbeats 16000000 in
theorem contr_block (S : Nat) (A : Option Addr) (n c : Nat) (f : Nat → Nat → Int) (Av : Option Addr) (m cv : Nat) (zs : List Int) (B o v : Nat) (w : World) (hP : RowP 3 w B A n c f) (hO : blockOk S n f = true) (h : RowI .i64 w B Av m cv zs) (hm : 6 ≤ m) (hz : ∀ i, i < 6 → 0 ≤ nth zs i ∧ nth zs i ≤ 100) (hov : o ≠ v) (ho : o < w.heap.size) (hvz : v < w.heap.size) (hv : w.cell? ⟨v, 0, none⟩ = some (.slice Av m cv))
    (hc : w.cell? ⟨o, 0, none⟩ = some (.int .i64 (sumC zs []))) (hf : w.frozen? ⟨o, 0, none⟩ = false) (hBo : B ≤ o) :
    Calls Try.prog 67 #[.agg #[.int .i64 S, .slice A n c], .func (.func 68) #[] #[.pointer (some ⟨o, 0, none⟩), .pointer (some ⟨v, 0, none⟩)]] w fun e w' => e = .returned (.tuple #[]) ∧ w'.cell? ⟨o, 0, none⟩ = some (.int .i64 (sumC zs (prs S f S))) ∧ OnlyIn o (o + 1) w w' := by
  have hmf := makeFunc_run
  have hbk := block_of hO
  have s4 := hbk.s4
  have hN := Lib.hid hbk.sq
  have HOK := Lib.hid hbk.ok
  have n16 := hbk.n16
  have HIN := Lib.hid (fun (y x : Nat) (hx : x < S) (hy : y < S) => (show y * S + x < n by have h1 := place_in hy hx; have h2 := hbk.sq; have h3 : ((S * S : Nat) : Int) = (S : Int) * (S : Int) := Int.natCast_mul S S; omega))
  have HALLS := Lib.hid (isPrs (s := S) (f := f) (fun k hk => hbk.ok k (by have h2 := hbk.sq; have h3 : ((S * S : Nat) : Int) = (S : Int) * (S : Int) := Int.natCast_mul S S; omega)))
  have HALLR := Lib.hid (fun y (hy : y < S) => isPrRow (s := S) (f := f) (y := y) (fun k hk => hbk.ok k (by have h2 := hbk.sq; have h3 : ((S * S : Nat) : Int) = (S : Int) * (S : Int) := Int.natCast_mul S S; omega)) hy)
  have HO := Lib.hid hO
  clear hO hbk
  obtain ⟨w1, hw1⟩ : ∃ w1, w1 = w.alloc (.cells #[.int .i64 S, .slice A n c] 31) := ⟨_, rfl⟩
  have z1 : w1.heap.size = w.heap.size + 1 := by rw [hw1]; simp
  have b1 : Below w.heap.size w w1 := by rw [hw1]; exact (Below.refl _ _).alloc (Nat.le_refl _) _
  have hx1 : BoxB w1 w.heap.size S (.slice A n c) := by rw [hw1]; exact ⟨by simp, by go_simp, by go_simp⟩
  have hP1 : RowP 3 w1 B A n c f := hP.keep fun p hp => b1.cell (by omega)
  have hI1 : RowI .i64 w1 B Av m cv zs := h.keep fun p hp => b1.cell (by omega)
  have hc1 := (b1.cell (p := ⟨o, 0, none⟩) ho).trans hc
  have hf1 := (b1.frozen (p := ⟨o, 0, none⟩) ho).trans hf
  have hv1 := (b1.cell (p := ⟨v, 0, none⟩) hvz).trans hv
  have hB1 : B ≤ w1.heap.size := by omega
  have hv1z : v < w1.heap.size := by omega
  have hov2 : v < o ∨ o + 1 ≤ v := by omega
  have ho1 : OnlyIn o (o + 1) w w1 := OnlyIn.of_below b1
  clear hP h hc hf hv b1
  go_enter Try.func67, Try.ntmps67
  go_wp2_with fail
  rw [← hw1]
  clear hw1
  go_loopw [4, 5, 6, 9] (fun _ _ _ i wr => ∃ y : Nat, y ≤ S ∧ i = .int .i64 y ∧ wr.cell? ⟨o, 0, none⟩ = some (.int .i64 (sumC zs (prs S f y))) ∧ wr.frozen? ⟨o, 0, none⟩ = false ∧ OnlyIn o (o + 1) w1 wr) (fun _ _ _ i _ => S - (intOf i).toNat)
  case atStart => exact ⟨0, by omega, rfl, hc1, hf1, OnlyIn.refl _ _ _⟩
  case round =>
    clear hc1 hf1
    obtain ⟨y, hy, rfl, co, fo, hon⟩ := hrel
    have xc0 := (only_cell hon (b := w.heap.size) (by omega) (by omega) 0).trans hx1.2.1
    have xc1 := (only_cell hon (b := w.heap.size) (by omega) (by omega) 1).trans hx1.2.2
    by_cases hyl : y < S
    · have y0 : (0 : Int) ≤ (y : Int) := by omega
      have y3 : (y : Int) < (S : Int) := by omega
      go_wp2_with fail
      clear xc0 xc1
      go_loopw [5, 6, 14] (fun _ _ i wr => ∃ x : Nat, x ≤ S ∧ i = .int .i64 x ∧ wr.cell? ⟨o, 0, none⟩ = some (.int .i64 (sumC zs (prs S f y ++ prsRow S f y x))) ∧ wr.frozen? ⟨o, 0, none⟩ = false ∧ OnlyIn o (o + 1) w1 wr) (fun _ _ i _ => S - (intOf i).toNat)
      case atStart => exact ⟨0, by omega, rfl, by rw [show prs S f y ++ prsRow S f y 0 = prs S f y from List.append_nil _]; exact co, fo, hon⟩
      case round =>
        clear co fo hon
        obtain ⟨x, hx, rfl, co, fo, hon⟩ := hrel
        have xc0 := (only_cell hon (b := w.heap.size) (by omega) (by omega) 0).trans hx1.2.1
        have xc1 := (only_cell hon (b := w.heap.size) (by omega) (by omega) 1).trans hx1.2.2
        by_cases hxl : x < S
        · have x0 : (0 : Int) ≤ (x : Int) := by omega
          have x3 : (x : Int) < (S : Int) := by omega
          obtain ⟨k, hk⟩ : ∃ k, k = y * S + x := ⟨_, rfl⟩
          have HK := Lib.hid hk
          have hkn : k < n := by rw [hk]; exact HIN.out _ _ hxl hyl
          have okk := HOK.out k hkn
          have ck := cellOk_t okk
          clear hk
          obtain ⟨L00, hL00⟩ : ∃ L, L = prs S f y ++ prsRow S f y x := ⟨_, rfl⟩
          have HL00 := Lib.hid hL00
          rw [← hL00] at co
          have HP0 := Lib.hid (show ∀ p ∈ L00, isPr p by rw [hL00]; intro p hp; rcases List.mem_append.1 hp with q | q; exact HALLS.out y (by omega) p q; exact HALLR.out y hyl x (by omega) p q)
          have HE0 := Lib.hid (show L00.length ≤ 60 by rw [hL00, List.length_append]; have e1 := prs_len S f y; have e2 := prsRow_len S f y x; have e3 := Nat.mul_le_mul (show S ≤ 4 by omega) (show y ≤ 4 by omega); omega)
          clear hL00
          go_wp2_with fail
          refine (impl_cellAt S A n c f x y B _ (only_rowP hP1 hon hBo hB1) (by have := hon.size; omega) HO.out hxl hyl).mono ?_
          rintro e w2 ⟨rfl, hb2⟩
          rw [← HK.out]
          have z2 := hb2.size
          have zr := hon.size
          have hon2 := (hon.below hb2).alloc (.cells #[.int .i64 (f k 0), .int .i64 (f k 1), .int .i64 (f k 2)] 56)
          have co2 := (((Below.refl _ _).alloc (Nat.le_refl _) (.cells #[.int .i64 (f k 0), .int .i64 (f k 1), .int .i64 (f k 2)] 56)).cell (p := ⟨o, 0, none⟩) (show o < w2.heap.size by omega)).trans ((hb2.cell (p := ⟨o, 0, none⟩) (show o < wr.heap.size by omega)).trans co)
          have fo2 := (((Below.refl _ _).alloc (Nat.le_refl _) (.cells #[.int .i64 (f k 0), .int .i64 (f k 1), .int .i64 (f k 2)] 56)).frozen (p := ⟨o, 0, none⟩) (show o < w2.heap.size by omega)).trans ((hb2.frozen (p := ⟨o, 0, none⟩) (show o < wr.heap.size by omega)).trans fo)
          have GC := heap_alloc_new w2 (.cells #[.int .i64 (f k 0), .int .i64 (f k 1), .int .i64 (f k 2)] 56)
          clear xc0 xc1
          go_wp2_with fail
          refine (blockfn Av m cv zs B o v (f k 1) (f k 2) L00 _ (only_rowI hI1 hon2 hBo hB1) hm hz hov (by simp; omega) ((only_cell hon2 hv1z hov2 0).trans hv1) co2 fo2 (by have hall := HP0.out; have hl := HE0.out; have hh := sumC_bd hz hall; omega) ck.2.1 ck.2.2.1).mono ?_
          rintro e w3 ⟨rfl, co, fo, ho3⟩
          have hon_a := hon2.trans ho3
          have GC0 : (w2.alloc (.cells #[.int .i64 (f k 0), .int .i64 (f k 1), .int .i64 (f k 2)] 56)).cell? ⟨w2.heap.size, 0, none⟩ = some (.int .i64 (f k 0)) := by go_simp
          have GC1 : (w2.alloc (.cells #[.int .i64 (f k 0), .int .i64 (f k 1), .int .i64 (f k 2)] 56)).cell? ⟨w2.heap.size, 1, none⟩ = some (.int .i64 (f k 1)) := by go_simp
          have GC2 : (w2.alloc (.cells #[.int .i64 (f k 0), .int .i64 (f k 1), .int .i64 (f k 2)] 56)).cell? ⟨w2.heap.size, 2, none⟩ = some (.int .i64 (f k 2)) := by go_simp
          have cc0 := (only_cell ho3 (b := w2.heap.size) (by simp) (by omega) 0).trans GC0
          have cc1 := (only_cell ho3 (b := w2.heap.size) (by simp) (by omega) 1).trans GC1
          have cc2 := (only_cell ho3 (b := w2.heap.size) (by simp) (by omega) 2).trans GC2
          have zg0 : w2.heap.size < w3.heap.size := by have e := ho3.size; simp at e; omega
          have xc0 := (only_cell hon_a (b := w.heap.size) (by omega) (by omega) 0).trans hx1.2.1
          have xc1 := (only_cell hon_a (b := w.heap.size) (by omega) (by omega) 1).trans hx1.2.2
          obtain ⟨gc, hgc⟩ : ∃ gc, gc = w2.heap.size := ⟨_, rfl⟩
          rw [← hgc] at cc0 cc1 cc2 zg0 ⊢
          have zg1 : o < gc := by omega
          have zg2 : w.heap.size < gc := by omega
          obtain ⟨L0, hL0⟩ : ∃ L, L = L00 ++ prs0 f k := ⟨_, rfl⟩
          have HL0 := Lib.hid (show L0 = prs S f y ++ prsRow S f y x ++ prs0 f k by rw [hL0, HL00.out])
          replace co : w3.cell? ⟨o, 0, none⟩ = some (.int .i64 (sumC zs L0)) := by rw [hL0]; exact co
          have HALL := Lib.hid (show ∀ p ∈ L0, isPr p by rw [hL0]; intro p hp; rcases List.mem_append.1 hp with e | e; exact HP0.out p e; exact isPr0 okk p e)
          have HLEN := Lib.hid (show L0.length ≤ 61 by rw [hL0, List.length_append]; have e1 := HE0.out; have e2 : (prs0 f k).length = 1 := rfl; omega)
          obtain ⟨xn, hxn0⟩ : ∃ q, q = x + 1 := ⟨_, rfl⟩
          obtain ⟨yn, hyn0⟩ : ∃ q, q = y + 1 := ⟨_, rfl⟩
          have t1 : (x : Int) + 1 = (xn : Int) := by omega
          have t2 : IntKind.i64.wrap ((x : Int) + 1) = (xn : Int) := by rw [t1]; exact IntWalk.i64_in _ (by omega)
          have t3 : (y : Int) + 1 = (yn : Int) := by omega
          have t4 : IntKind.i64.wrap ((y : Int) + 1) = (yn : Int) := by rw [t3]; exact IntWalk.i64_in _ (by omega)
          have t9 : IntKind.i64.wrap (xn : Int) = (xn : Int) := IntWalk.i64_in _ (by omega)
          have t10 : IntKind.i64.wrap (yn : Int) = (yn : Int) := IntWalk.i64_in _ (by omega)
          have t5 : x + 1 ≤ xn := by omega
          have t6 : xn ≤ x + 1 := by omega
          have t7 : y + 1 ≤ yn := by omega
          have t8 : yn ≤ y + 1 := by omega
          have HX := Lib.hid hxn0
          have HY := Lib.hid hyn0
          clear hgc hL0 hxn0 hyn0 co2 fo2 hon2 ho3 GC0 GC1 GC2 hb2 hon
          rcases Nat.lt_or_ge xn S with hxn | hxn
          · have d1 : (xn : Int) < (S : Int) := by omega
            rcases Nat.lt_or_ge yn S with hyn | hyn
            · have d2 : (yn : Int) < (S : Int) := by omega
              obtain ⟨q, hq⟩ : ∃ q, q = y * S + xn := ⟨_, rfl⟩
              have HQ := Lib.hid hq
              have hqn : q < n := by rw [hq]; exact HIN.out _ _ hxn hyl
              have okq := HOK.out q hqn
              have ca := colorAt_bd okk (side := 2) (by decide)
              have cd := colorAt_bd okq (side := 0) (by decide)
              have zw := hon_a.size
              have hPw := only_rowP hP1 hon_a hBo hB1
              clear hq
              go_wp2_with fail
              go_region_held3 (fun w' => w'.cell? ⟨w.heap.size, 0, none⟩ = some (.int .i64 S) ∧ w'.cell? ⟨w.heap.size, 1, none⟩ = some (.slice A n c) ∧ w'.cell? ⟨gc, 0, none⟩ = some (.int .i64 (f k 0)) ∧ w'.cell? ⟨gc, 1, none⟩ = some (.int .i64 (f k 1)) ∧ w'.cell? ⟨gc, 2, none⟩ = some (.int .i64 (f k 2))) (first | go_keep | (exact ⟨s0, s1, s2, s3, s4⟩)) (first
                | (go_at_call 96; refine Calls.mono (impl_cellAt S A n c f xn y B _ (by exact hPw) (by exact Nat.le_trans hB1 zw) HO.out hxn hyl) ?_; rintro e wc0 ⟨rfl, hbc0⟩; rw [← HQ.out]; replace hbc0 := below_drew hbc0; obtain ⟨hcc0, hfc0⟩ := bcell hbc0; have zc0 := hbc0.size; have s0 := (hcc0 w.heap.size 0 (by omega)).trans xc0; have s1 := (hcc0 w.heap.size 1 (by omega)).trans xc1; have s2 := (hcc0 gc 0 (by omega)).trans cc0; have s3 := (hcc0 gc 1 (by omega)).trans cc1; have s4 := (hcc0 gc 2 (by omega)).trans cc2; have hon_p := hon_a.below hbc0; have co0 := (hcc0 o 0 (by omega)).trans co; have fo0 := (hfc0 o 0 (by omega)).trans fo; clear hcc0 hfc0 hbc0)
                | (go_at_call 78; with_reducible refine Calls.mono (impl_sides (f k) (f q) true _) ?_; rintro e wc1 ⟨rfl, hbc1⟩; obtain ⟨hcc1, hfc1⟩ := bcell hbc1; have zc1 := hbc1.size; have s0 := (hcc1 w.heap.size 0 (by omega)).trans s0; have s1 := (hcc1 w.heap.size 1 (by omega)).trans s1; have s2 := (hcc1 gc 0 (by omega)).trans s2; have s3 := (hcc1 gc 1 (by omega)).trans s3; have s4 := (hcc1 gc 2 (by omega)).trans s4; have hon_q := hon_p.below hbc1; have co1 := (hcc1 o 0 (by omega)).trans co0; have fo1 := (hfc1 o 0 (by omega)).trans fo0; clear hcc1 hfc1 hbc1)
                | (go_at_call 68; with_reducible refine Calls.mono (blockfn Av m cv zs B o v (colorAt (f k) 2) (colorAt (f q) 0) L0 _ (only_rowI hI1 hon_q hBo hB1) hm hz hov (by omega) ((only_cell hon_q hv1z hov2 0).trans hv1) co1 fo1 (by have hall := HALL.out; have hl := HLEN.out; have hh := sumC_bd hz hall; omega) ca cd) ?_; rintro e wc2 ⟨rfl, co2, fo2, hon2⟩; have hon_c0 := hon_q.trans hon2; have cc0 := (only_cell hon2 (b := gc) (by omega) (by omega) 0).trans s2; have cc1 := (only_cell hon2 (b := gc) (by omega) (by omega) 1).trans s3; have cc2 := (only_cell hon2 (b := gc) (by omega) (by omega) 2).trans s4; have xc0 := (only_cell hon2 (b := w.heap.size) (by omega) (by omega) 0).trans s0; have xc1 := (only_cell hon2 (b := w.heap.size) (by omega) (by omega) 1).trans s1; have zc2 := hon2.size; have s0 := xc0; have s1 := xc1; have s2 := cc0; have s3 := cc1; have s4 := cc2))
              have HQ2 := Lib.hid (show q = k + 1 by have e1 := HQ.out; have e2 := HK.out; have e3 := HX.out; rw [e3] at e1; omega)
              rw [HQ2.out] at co2
              have co : wc2.cell? ⟨o, 0, none⟩ = some (.int .i64 (sumC zs (L0 ++ prsR f k))) := co2
              have fo := fo2
              obtain ⟨L1, hL1⟩ : ∃ L, L = L0 ++ prsR f k := ⟨_, rfl⟩
              have HL1 := Lib.hid hL1
              rw [← hL1] at co
              have HALL2 := Lib.hid (show ∀ p ∈ L1, isPr p by rw [hL1]; intro p hp; rcases List.mem_append.1 hp with e | e; exact HALL.out p e; exact isPrR okk (by rw [← HQ2.out]; exact okq) p e)
              have HLEN2 := Lib.hid (show L1.length ≤ 62 by rw [hL1, List.length_append]; have e1 := HLEN.out; have e2 : (prsR f k).length = 1 := rfl; omega)
              clear hPw hL1 co2 fo2 hon2 s0 s1 s2 s3 s4 co0 co1 fo0 fo1 hon_p hon_q HALL HLEN HQ HQ2 okq cd ca hqn
              have HALL := HALL2
              have HLEN := HLEN2
              clear HALL2 HLEN2
              obtain ⟨q, hq⟩ : ∃ q, q = yn * S + x := ⟨_, rfl⟩
              have HQ := Lib.hid hq
              have hqn : q < n := by rw [hq]; exact HIN.out _ _ hxl hyn
              have okq := HOK.out q hqn
              have ca := colorAt_bd okk (side := 3) (by decide)
              have cd := colorAt_bd okq (side := 1) (by decide)
              have zw := hon_c0.size
              have hPw := only_rowP hP1 hon_c0 hBo hB1
              clear hq
              go_wp2_with fail
              go_region_held3 (fun w' => w'.cell? ⟨w.heap.size, 0, none⟩ = some (.int .i64 S) ∧ w'.cell? ⟨w.heap.size, 1, none⟩ = some (.slice A n c) ∧ w'.cell? ⟨gc, 0, none⟩ = some (.int .i64 (f k 0)) ∧ w'.cell? ⟨gc, 1, none⟩ = some (.int .i64 (f k 1)) ∧ w'.cell? ⟨gc, 2, none⟩ = some (.int .i64 (f k 2))) (first | go_keep | (exact ⟨s0, s1, s2, s3, s4⟩)) (first
                | (go_at_call 96; refine Calls.mono (impl_cellAt S A n c f x yn B _ (by exact hPw) (by exact Nat.le_trans hB1 zw) HO.out hxl hyn) ?_; rintro e wc0 ⟨rfl, hbc0⟩; rw [← HQ.out]; replace hbc0 := below_drew hbc0; obtain ⟨hcc0, hfc0⟩ := bcell hbc0; have zc0 := hbc0.size; have s0 := (hcc0 w.heap.size 0 (by omega)).trans xc0; have s1 := (hcc0 w.heap.size 1 (by omega)).trans xc1; have s2 := (hcc0 gc 0 (by omega)).trans cc0; have s3 := (hcc0 gc 1 (by omega)).trans cc1; have s4 := (hcc0 gc 2 (by omega)).trans cc2; have hon_p := hon_c0.below hbc0; have co0 := (hcc0 o 0 (by omega)).trans co; have fo0 := (hfc0 o 0 (by omega)).trans fo; clear hcc0 hfc0 hbc0)
                | (go_at_call 78; with_reducible refine Calls.mono (impl_sides (f k) (f q) false _) ?_; rintro e wc1 ⟨rfl, hbc1⟩; obtain ⟨hcc1, hfc1⟩ := bcell hbc1; have zc1 := hbc1.size; have s0 := (hcc1 w.heap.size 0 (by omega)).trans s0; have s1 := (hcc1 w.heap.size 1 (by omega)).trans s1; have s2 := (hcc1 gc 0 (by omega)).trans s2; have s3 := (hcc1 gc 1 (by omega)).trans s3; have s4 := (hcc1 gc 2 (by omega)).trans s4; have hon_q := hon_p.below hbc1; have co1 := (hcc1 o 0 (by omega)).trans co0; have fo1 := (hfc1 o 0 (by omega)).trans fo0; clear hcc1 hfc1 hbc1)
                | (go_at_call 68; with_reducible refine Calls.mono (blockfn Av m cv zs B o v (colorAt (f k) 3) (colorAt (f q) 1) L1 _ (only_rowI hI1 hon_q hBo hB1) hm hz hov (by omega) ((only_cell hon_q hv1z hov2 0).trans hv1) co1 fo1 (by have hall := HALL.out; have hl := HLEN.out; have hh := sumC_bd hz hall; omega) ca cd) ?_; rintro e wc2 ⟨rfl, co2, fo2, hon2⟩; have hon_c1 := hon_q.trans hon2; have cc0 := (only_cell hon2 (b := gc) (by omega) (by omega) 0).trans s2; have cc1 := (only_cell hon2 (b := gc) (by omega) (by omega) 1).trans s3; have cc2 := (only_cell hon2 (b := gc) (by omega) (by omega) 2).trans s4; have xc0 := (only_cell hon2 (b := w.heap.size) (by omega) (by omega) 0).trans s0; have xc1 := (only_cell hon2 (b := w.heap.size) (by omega) (by omega) 1).trans s1; have zc2 := hon2.size; have s0 := xc0; have s1 := xc1; have s2 := cc0; have s3 := cc1; have s4 := cc2))
              have HQ2 := Lib.hid (show q = k + S by have e1 := HQ.out; have e2 := HK.out; have e3 := HY.out; rw [e3, Nat.succ_mul] at e1; omega)
              rw [HQ2.out] at co2
              have co : wc2.cell? ⟨o, 0, none⟩ = some (.int .i64 (sumC zs (L1 ++ prsB S f k))) := co2
              have fo := fo2
              obtain ⟨L2, hL2⟩ : ∃ L, L = L1 ++ prsB S f k := ⟨_, rfl⟩
              have HL2 := Lib.hid hL2
              rw [← hL2] at co
              have HALL2 := Lib.hid (show ∀ p ∈ L2, isPr p by rw [hL2]; intro p hp; rcases List.mem_append.1 hp with e | e; exact HALL.out p e; exact isPrB okk (by rw [← HQ2.out]; exact okq) p e)
              have HLEN2 := Lib.hid (show L2.length ≤ 63 by rw [hL2, List.length_append]; have e1 := HLEN.out; have e2 : (prsB S f k).length = 1 := rfl; omega)
              clear hPw hL2 co2 fo2 hon2 s0 s1 s2 s3 s4 co0 co1 fo0 fo1 hon_p hon_q HALL HLEN HQ HQ2 okq cd ca hqn
              have HALL := HALL2
              have HLEN := HLEN2
              clear HALL2 HLEN2
              have HF := Lib.hid (show prs S f y ++ prsRow S f y xn = L2 by rw [HX.out, show prsRow S f y (x + 1) = prsRow S f y x ++ prsAt S f y x from rfl]; unfold prsAt; rw [← HK.out, if_pos (show x + 1 < S by have e := HX.out; omega), if_pos (show y + 1 < S by have e := HY.out; omega), HL2.out, HL1.out, HL0.out]; simp [List.append_assoc])
              rw [← HF.out] at co
              clear cc0 cc1 cc2
              go_wp2
              go_roundw
              case rel => exact ⟨xn, by omega, by first | rfl | go_num, co, fo, hon_c1⟩
              case measure => simp [intOf]; omega
            · have d2 : ¬ (yn : Int) < (S : Int) := by omega
              obtain ⟨q, hq⟩ : ∃ q, q = y * S + xn := ⟨_, rfl⟩
              have HQ := Lib.hid hq
              have hqn : q < n := by rw [hq]; exact HIN.out _ _ hxn hyl
              have okq := HOK.out q hqn
              have ca := colorAt_bd okk (side := 2) (by decide)
              have cd := colorAt_bd okq (side := 0) (by decide)
              have zw := hon_a.size
              have hPw := only_rowP hP1 hon_a hBo hB1
              clear hq
              go_wp2_with fail
              go_region_held3 (fun w' => w'.cell? ⟨w.heap.size, 0, none⟩ = some (.int .i64 S) ∧ w'.cell? ⟨w.heap.size, 1, none⟩ = some (.slice A n c) ∧ w'.cell? ⟨gc, 0, none⟩ = some (.int .i64 (f k 0)) ∧ w'.cell? ⟨gc, 1, none⟩ = some (.int .i64 (f k 1)) ∧ w'.cell? ⟨gc, 2, none⟩ = some (.int .i64 (f k 2))) (first | go_keep | (exact ⟨s0, s1, s2, s3, s4⟩)) (first
                | (go_at_call 96; refine Calls.mono (impl_cellAt S A n c f xn y B _ (by exact hPw) (by exact Nat.le_trans hB1 zw) HO.out hxn hyl) ?_; rintro e wc0 ⟨rfl, hbc0⟩; rw [← HQ.out]; replace hbc0 := below_drew hbc0; obtain ⟨hcc0, hfc0⟩ := bcell hbc0; have zc0 := hbc0.size; have s0 := (hcc0 w.heap.size 0 (by omega)).trans xc0; have s1 := (hcc0 w.heap.size 1 (by omega)).trans xc1; have s2 := (hcc0 gc 0 (by omega)).trans cc0; have s3 := (hcc0 gc 1 (by omega)).trans cc1; have s4 := (hcc0 gc 2 (by omega)).trans cc2; have hon_p := hon_a.below hbc0; have co0 := (hcc0 o 0 (by omega)).trans co; have fo0 := (hfc0 o 0 (by omega)).trans fo; clear hcc0 hfc0 hbc0)
                | (go_at_call 78; with_reducible refine Calls.mono (impl_sides (f k) (f q) true _) ?_; rintro e wc1 ⟨rfl, hbc1⟩; obtain ⟨hcc1, hfc1⟩ := bcell hbc1; have zc1 := hbc1.size; have s0 := (hcc1 w.heap.size 0 (by omega)).trans s0; have s1 := (hcc1 w.heap.size 1 (by omega)).trans s1; have s2 := (hcc1 gc 0 (by omega)).trans s2; have s3 := (hcc1 gc 1 (by omega)).trans s3; have s4 := (hcc1 gc 2 (by omega)).trans s4; have hon_q := hon_p.below hbc1; have co1 := (hcc1 o 0 (by omega)).trans co0; have fo1 := (hfc1 o 0 (by omega)).trans fo0; clear hcc1 hfc1 hbc1)
                | (go_at_call 68; with_reducible refine Calls.mono (blockfn Av m cv zs B o v (colorAt (f k) 2) (colorAt (f q) 0) L0 _ (only_rowI hI1 hon_q hBo hB1) hm hz hov (by omega) ((only_cell hon_q hv1z hov2 0).trans hv1) co1 fo1 (by have hall := HALL.out; have hl := HLEN.out; have hh := sumC_bd hz hall; omega) ca cd) ?_; rintro e wc2 ⟨rfl, co2, fo2, hon2⟩; have hon_c0 := hon_q.trans hon2; have cc0 := (only_cell hon2 (b := gc) (by omega) (by omega) 0).trans s2; have cc1 := (only_cell hon2 (b := gc) (by omega) (by omega) 1).trans s3; have cc2 := (only_cell hon2 (b := gc) (by omega) (by omega) 2).trans s4; have xc0 := (only_cell hon2 (b := w.heap.size) (by omega) (by omega) 0).trans s0; have xc1 := (only_cell hon2 (b := w.heap.size) (by omega) (by omega) 1).trans s1; have zc2 := hon2.size; have s0 := xc0; have s1 := xc1; have s2 := cc0; have s3 := cc1; have s4 := cc2))
              have HQ2 := Lib.hid (show q = k + 1 by have e1 := HQ.out; have e2 := HK.out; have e3 := HX.out; rw [e3] at e1; omega)
              rw [HQ2.out] at co2
              have co : wc2.cell? ⟨o, 0, none⟩ = some (.int .i64 (sumC zs (L0 ++ prsR f k))) := co2
              have fo := fo2
              obtain ⟨L1, hL1⟩ : ∃ L, L = L0 ++ prsR f k := ⟨_, rfl⟩
              have HL1 := Lib.hid hL1
              rw [← hL1] at co
              have HALL2 := Lib.hid (show ∀ p ∈ L1, isPr p by rw [hL1]; intro p hp; rcases List.mem_append.1 hp with e | e; exact HALL.out p e; exact isPrR okk (by rw [← HQ2.out]; exact okq) p e)
              have HLEN2 := Lib.hid (show L1.length ≤ 62 by rw [hL1, List.length_append]; have e1 := HLEN.out; have e2 : (prsR f k).length = 1 := rfl; omega)
              clear hPw hL1 co2 fo2 hon2 s0 s1 s2 s3 s4 co0 co1 fo0 fo1 hon_p hon_q HALL HLEN HQ HQ2 okq cd ca hqn
              have HALL := HALL2
              have HLEN := HLEN2
              clear HALL2 HLEN2
              have HF := Lib.hid (show prs S f y ++ prsRow S f y xn = L1 by rw [HX.out, show prsRow S f y (x + 1) = prsRow S f y x ++ prsAt S f y x from rfl]; unfold prsAt; rw [← HK.out, if_pos (show x + 1 < S by have e := HX.out; omega), if_neg (show ¬ y + 1 < S by have e := HY.out; omega), HL1.out, HL0.out]; simp [List.append_assoc])
              rw [← HF.out] at co
              clear cc0 cc1 cc2
              go_wp2
              go_roundw
              case rel => exact ⟨xn, by omega, by first | rfl | go_num, co, fo, hon_c0⟩
              case measure => simp [intOf]; omega
          · have d1 : ¬ (xn : Int) < (S : Int) := by omega
            rcases Nat.lt_or_ge yn S with hyn | hyn
            · have d2 : (yn : Int) < (S : Int) := by omega
              obtain ⟨q, hq⟩ : ∃ q, q = yn * S + x := ⟨_, rfl⟩
              have HQ := Lib.hid hq
              have hqn : q < n := by rw [hq]; exact HIN.out _ _ hxl hyn
              have okq := HOK.out q hqn
              have ca := colorAt_bd okk (side := 3) (by decide)
              have cd := colorAt_bd okq (side := 1) (by decide)
              have zw := hon_a.size
              have hPw := only_rowP hP1 hon_a hBo hB1
              clear hq
              go_wp2_with fail
              go_region_held3 (fun w' => w'.cell? ⟨w.heap.size, 0, none⟩ = some (.int .i64 S) ∧ w'.cell? ⟨w.heap.size, 1, none⟩ = some (.slice A n c) ∧ w'.cell? ⟨gc, 0, none⟩ = some (.int .i64 (f k 0)) ∧ w'.cell? ⟨gc, 1, none⟩ = some (.int .i64 (f k 1)) ∧ w'.cell? ⟨gc, 2, none⟩ = some (.int .i64 (f k 2))) (first | go_keep | (exact ⟨s0, s1, s2, s3, s4⟩)) (first
                | (go_at_call 96; refine Calls.mono (impl_cellAt S A n c f x yn B _ (by exact hPw) (by exact Nat.le_trans hB1 zw) HO.out hxl hyn) ?_; rintro e wc0 ⟨rfl, hbc0⟩; rw [← HQ.out]; replace hbc0 := below_drew hbc0; obtain ⟨hcc0, hfc0⟩ := bcell hbc0; have zc0 := hbc0.size; have s0 := (hcc0 w.heap.size 0 (by omega)).trans xc0; have s1 := (hcc0 w.heap.size 1 (by omega)).trans xc1; have s2 := (hcc0 gc 0 (by omega)).trans cc0; have s3 := (hcc0 gc 1 (by omega)).trans cc1; have s4 := (hcc0 gc 2 (by omega)).trans cc2; have hon_p := hon_a.below hbc0; have co0 := (hcc0 o 0 (by omega)).trans co; have fo0 := (hfc0 o 0 (by omega)).trans fo; clear hcc0 hfc0 hbc0)
                | (go_at_call 78; with_reducible refine Calls.mono (impl_sides (f k) (f q) false _) ?_; rintro e wc1 ⟨rfl, hbc1⟩; obtain ⟨hcc1, hfc1⟩ := bcell hbc1; have zc1 := hbc1.size; have s0 := (hcc1 w.heap.size 0 (by omega)).trans s0; have s1 := (hcc1 w.heap.size 1 (by omega)).trans s1; have s2 := (hcc1 gc 0 (by omega)).trans s2; have s3 := (hcc1 gc 1 (by omega)).trans s3; have s4 := (hcc1 gc 2 (by omega)).trans s4; have hon_q := hon_p.below hbc1; have co1 := (hcc1 o 0 (by omega)).trans co0; have fo1 := (hfc1 o 0 (by omega)).trans fo0; clear hcc1 hfc1 hbc1)
                | (go_at_call 68; with_reducible refine Calls.mono (blockfn Av m cv zs B o v (colorAt (f k) 3) (colorAt (f q) 1) L0 _ (only_rowI hI1 hon_q hBo hB1) hm hz hov (by omega) ((only_cell hon_q hv1z hov2 0).trans hv1) co1 fo1 (by have hall := HALL.out; have hl := HLEN.out; have hh := sumC_bd hz hall; omega) ca cd) ?_; rintro e wc2 ⟨rfl, co2, fo2, hon2⟩; have hon_c0 := hon_q.trans hon2; have cc0 := (only_cell hon2 (b := gc) (by omega) (by omega) 0).trans s2; have cc1 := (only_cell hon2 (b := gc) (by omega) (by omega) 1).trans s3; have cc2 := (only_cell hon2 (b := gc) (by omega) (by omega) 2).trans s4; have xc0 := (only_cell hon2 (b := w.heap.size) (by omega) (by omega) 0).trans s0; have xc1 := (only_cell hon2 (b := w.heap.size) (by omega) (by omega) 1).trans s1; have zc2 := hon2.size; have s0 := xc0; have s1 := xc1; have s2 := cc0; have s3 := cc1; have s4 := cc2))
              have HQ2 := Lib.hid (show q = k + S by have e1 := HQ.out; have e2 := HK.out; have e3 := HY.out; rw [e3, Nat.succ_mul] at e1; omega)
              rw [HQ2.out] at co2
              have co : wc2.cell? ⟨o, 0, none⟩ = some (.int .i64 (sumC zs (L0 ++ prsB S f k))) := co2
              have fo := fo2
              obtain ⟨L1, hL1⟩ : ∃ L, L = L0 ++ prsB S f k := ⟨_, rfl⟩
              have HL1 := Lib.hid hL1
              rw [← hL1] at co
              have HALL2 := Lib.hid (show ∀ p ∈ L1, isPr p by rw [hL1]; intro p hp; rcases List.mem_append.1 hp with e | e; exact HALL.out p e; exact isPrB okk (by rw [← HQ2.out]; exact okq) p e)
              have HLEN2 := Lib.hid (show L1.length ≤ 62 by rw [hL1, List.length_append]; have e1 := HLEN.out; have e2 : (prsB S f k).length = 1 := rfl; omega)
              clear hPw hL1 co2 fo2 hon2 s0 s1 s2 s3 s4 co0 co1 fo0 fo1 hon_p hon_q HALL HLEN HQ HQ2 okq cd ca hqn
              have HALL := HALL2
              have HLEN := HLEN2
              clear HALL2 HLEN2
              have HF := Lib.hid (show prs S f y ++ prsRow S f y xn = L1 by rw [HX.out, show prsRow S f y (x + 1) = prsRow S f y x ++ prsAt S f y x from rfl]; unfold prsAt; rw [← HK.out, if_neg (show ¬ x + 1 < S by have e := HX.out; omega), if_pos (show y + 1 < S by have e := HY.out; omega), HL1.out, HL0.out]; simp [List.append_assoc])
              rw [← HF.out] at co
              clear cc0 cc1 cc2
              go_wp2
              go_roundw
              case rel => exact ⟨xn, by omega, by first | rfl | go_num, co, fo, hon_c0⟩
              case measure => simp [intOf]; omega
            · have d2 : ¬ (yn : Int) < (S : Int) := by omega
              have HF := Lib.hid (show prs S f y ++ prsRow S f y xn = L0 by rw [HX.out, show prsRow S f y (x + 1) = prsRow S f y x ++ prsAt S f y x from rfl]; unfold prsAt; rw [← HK.out, if_neg (show ¬ x + 1 < S by have e := HX.out; omega), if_neg (show ¬ y + 1 < S by have e := HY.out; omega), HL0.out]; simp [List.append_assoc])
              rw [← HF.out] at co
              clear cc0 cc1 cc2
              go_wp2
              go_roundw
              case rel => exact ⟨xn, by omega, by first | rfl | go_num, co, fo, hon_a⟩
              case measure => simp [intOf]; omega
        · have x3 : ¬ (x : Int) < (S : Int) := by omega
          have HF := Lib.hid (show prs S f y ++ prsRow S f y x = prs S f (y + 1) by rw [show x = S by omega]; rfl)
          rw [HF.out] at co
          go_wp2
          go_roundw
          case rel => exact ⟨y + 1, by omega, by go_num, co, fo, hon⟩
          case measure => simp [intOf]; omega
    · have y3 : ¬ (y : Int) < (S : Int) := by omega
      have HF := Lib.hid (show prs S f y = prs S f S by rw [show y = S by omega])
      rw [HF.out] at co
      go_wp2
      go_end0
      exact ⟨rfl, co, ho1.trans hon⟩
set_option maxRecDepth 100000 in
set_option maxHeartbeats 8000000 in
theorem leastfn (A : Option Addr) (m c : Nat) (zs : List Int) (B o v : Nat) (a d : Int) (L : List (List Int)) (w : World) (h : RowI .i64 w B A m c zs) (hm : 6 ≤ m) (hz : ∀ i, i < 6 → 0 ≤ nth zs i ∧ nth zs i ≤ 100) (hov : o ≠ v) (ho : o < w.heap.size) (hv : w.cell? ⟨v, 0, none⟩ = some (.slice A m c))
    (hc : w.cell? ⟨o, 0, none⟩ = some (.int .i64 (leastC zs L))) (hf : w.frozen? ⟨o, 0, none⟩ = false) (hbd : -1 ≤ leastC zs L ∧ leastC zs L ≤ 100000) (ha : 0 ≤ a ∧ a ≤ 5) (hd : 0 ≤ d ∧ d ≤ 5) :
    Calls Try.prog 70 #[.int .i64 a, .int .i64 d, .pointer (some ⟨v, 0, none⟩), .pointer (some ⟨o, 0, none⟩)] w fun e w' => e = .returned (.tuple #[]) ∧ w'.cell? ⟨o, 0, none⟩ = some (.int .i64 (leastC zs (L ++ [[a, d]]))) ∧ w'.frozen? ⟨o, 0, none⟩ = false ∧ OnlyIn o (o + 1) w w' := by
  obtain ⟨b, off, rfl, hbB, hx⟩ := h.2.2.2.2 (by omega)
  have x1 := hx a.toNat (by omega)
  have x2 := hx d.toNat (by omega)
  have b1 := hz a.toNat (by omega)
  have b2 := hz d.toNat (by omega)
  have p3 : a < (m : Int) := by omega
  have p4 : d < (m : Int) := by omega
  have hg := gap_bd b1 b2
  have HG := Lib.hid (show gapOf zs [a, d] = gap (nth zs a.toNat) (nth zs d.toNat) from rfl)
  have ew : IntKind.i64.wrap (nth zs a.toNat - nth zs d.toNat) = nth zs a.toNat - nth zs d.toNat := IntWalk.i64_in _ (by omega)
  have HS := Lib.hid (show leastC zs (L ++ [[a, d]]) = (if a != d && (decide (leastC zs L < 0) || decide (gap (nth zs a.toNat) (nth zs d.toNat) < leastC zs L)) then gap (nth zs a.toNat) (nth zs d.toNat) else leastC zs L) by rw [leastC_snoc]; unfold lessC; rw [HG.out]; rfl)
  obtain ⟨T, hT⟩ : ∃ T, T = leastC zs L := ⟨_, rfl⟩
  rw [← hT] at hc hbd HS
  obtain ⟨G, hG⟩ : ∃ G, G = gap (nth zs a.toNat) (nth zs d.toNat) := ⟨_, rfl⟩
  rw [← hG] at HS
  have HGG := Lib.hid hG
  clear hx hz h hT hG HG hg
  rcases Bool.eq_false_or_eq_true (a == d) with q1 | q1
  · have q2 : (a != d) = false := by simp [bne, q1]
    have HR := Lib.hid (show leastC zs (L ++ [[a, d]]) = T by rw [HS.out, q2]; rfl)
    go_enter Try.func70, Try.ntmps70
    go_wp2_with fail
    go_quiet ((go_at_call 69; with_reducible exact quiet_size (nth zs a.toNat) (nth zs d.toNat) _ _ b1 b2))
    rw [← HGG.out]
    go_wp2
    go_end0
    exact ⟨rfl, by rw [HR.out]; exact hc, hf, only_drewN w nq⟩
  · have q2 : (a != d) = true := by simp [bne, q1]
    rcases Bool.eq_false_or_eq_true (decide (T < 0)) with q3 | q3
    · have HR := Lib.hid (show leastC zs (L ++ [[a, d]]) = G by rw [HS.out, q2, q3]; rfl)
      go_enter Try.func70, Try.ntmps70
      go_wp2_with fail
      go_quiet ((go_at_call 69; with_reducible exact quiet_size (nth zs a.toNat) (nth zs d.toNat) _ _ b1 b2))
      rw [← HGG.out]
      go_wp2
      go_end0
      exact ⟨rfl, (set_cell (w := w.drewN nq) hc).trans (by rw [HR.out]), set_frozen (w := w.drewN nq) hc hf, only_set (only_drewN w nq) _⟩
    · rcases Bool.eq_false_or_eq_true (decide (G < T)) with q4 | q4
      · have HR := Lib.hid (show leastC zs (L ++ [[a, d]]) = G by rw [HS.out, q2, q3, q4]; rfl)
        go_enter Try.func70, Try.ntmps70
        go_wp2_with fail
        go_quiet ((go_at_call 69; with_reducible exact quiet_size (nth zs a.toNat) (nth zs d.toNat) _ _ b1 b2))
        rw [← HGG.out]
        go_wp2
        go_end0
        exact ⟨rfl, (set_cell (w := w.drewN nq) hc).trans (by rw [HR.out]), set_frozen (w := w.drewN nq) hc hf, only_set (only_drewN w nq) _⟩
      · have HR := Lib.hid (show leastC zs (L ++ [[a, d]]) = T by rw [HS.out, q2, q3, q4]; rfl)
        go_enter Try.func70, Try.ntmps70
        go_wp2_with fail
        go_quiet ((go_at_call 69; with_reducible exact quiet_size (nth zs a.toNat) (nth zs d.toNat) _ _ b1 b2))
        rw [← HGG.out]
        go_wp2
        go_end0
        exact ⟨rfl, by rw [HR.out]; exact hc, hf, only_drewN w nq⟩
set_option maxRecDepth 100000 in
set_option maxHeartbeats 16000000 in
theorem contr_least (S : Nat) (A : Option Addr) (n c : Nat) (f : Nat → Nat → Int) (Av : Option Addr) (m cv : Nat) (zs : List Int) (B o v : Nat) (w : World) (hP : RowP 3 w B A n c f) (hO : blockOk S n f = true) (h : RowI .i64 w B Av m cv zs) (hm : 6 ≤ m) (hz : ∀ i, i < 6 → 0 ≤ nth zs i ∧ nth zs i ≤ 100) (hov : o ≠ v) (ho : o < w.heap.size) (hvz : v < w.heap.size) (hv : w.cell? ⟨v, 0, none⟩ = some (.slice Av m cv))
    (hc : w.cell? ⟨o, 0, none⟩ = some (.int .i64 (leastC zs []))) (hf : w.frozen? ⟨o, 0, none⟩ = false) (hBo : B ≤ o) :
    Calls Try.prog 67 #[.agg #[.int .i64 S, .slice A n c], .func (.func 70) #[] #[.pointer (some ⟨v, 0, none⟩), .pointer (some ⟨o, 0, none⟩)]] w fun e w' => e = .returned (.tuple #[]) ∧ w'.cell? ⟨o, 0, none⟩ = some (.int .i64 (leastC zs (prs S f S))) ∧ OnlyIn o (o + 1) w w' := by
  have hmf := makeFunc_run
  have hbk := block_of hO
  have s4 := hbk.s4
  have hN := Lib.hid hbk.sq
  have HOK := Lib.hid hbk.ok
  have n16 := hbk.n16
  have HIN := Lib.hid (fun (y x : Nat) (hx : x < S) (hy : y < S) => (show y * S + x < n by have h1 := place_in hy hx; have h2 := hbk.sq; have h3 : ((S * S : Nat) : Int) = (S : Int) * (S : Int) := Int.natCast_mul S S; omega))
  have HALLS := Lib.hid (isPrs (s := S) (f := f) (fun k hk => hbk.ok k (by have h2 := hbk.sq; have h3 : ((S * S : Nat) : Int) = (S : Int) * (S : Int) := Int.natCast_mul S S; omega)))
  have HALLR := Lib.hid (fun y (hy : y < S) => isPrRow (s := S) (f := f) (y := y) (fun k hk => hbk.ok k (by have h2 := hbk.sq; have h3 : ((S * S : Nat) : Int) = (S : Int) * (S : Int) := Int.natCast_mul S S; omega)) hy)
  have HO := Lib.hid hO
  clear hO hbk
  obtain ⟨w1, hw1⟩ : ∃ w1, w1 = w.alloc (.cells #[.int .i64 S, .slice A n c] 31) := ⟨_, rfl⟩
  have z1 : w1.heap.size = w.heap.size + 1 := by rw [hw1]; simp
  have b1 : Below w.heap.size w w1 := by rw [hw1]; exact (Below.refl _ _).alloc (Nat.le_refl _) _
  have hx1 : BoxB w1 w.heap.size S (.slice A n c) := by rw [hw1]; exact ⟨by simp, by go_simp, by go_simp⟩
  have hP1 : RowP 3 w1 B A n c f := hP.keep fun p hp => b1.cell (by omega)
  have hI1 : RowI .i64 w1 B Av m cv zs := h.keep fun p hp => b1.cell (by omega)
  have hc1 := (b1.cell (p := ⟨o, 0, none⟩) ho).trans hc
  have hf1 := (b1.frozen (p := ⟨o, 0, none⟩) ho).trans hf
  have hv1 := (b1.cell (p := ⟨v, 0, none⟩) hvz).trans hv
  have hB1 : B ≤ w1.heap.size := by omega
  have hv1z : v < w1.heap.size := by omega
  have hov2 : v < o ∨ o + 1 ≤ v := by omega
  have ho1 : OnlyIn o (o + 1) w w1 := OnlyIn.of_below b1
  clear hP h hc hf hv b1
  go_enter Try.func67, Try.ntmps67
  go_wp2_with fail
  rw [← hw1]
  clear hw1
  go_loopw [4, 5, 6, 9] (fun _ _ _ i wr => ∃ y : Nat, y ≤ S ∧ i = .int .i64 y ∧ wr.cell? ⟨o, 0, none⟩ = some (.int .i64 (leastC zs (prs S f y))) ∧ wr.frozen? ⟨o, 0, none⟩ = false ∧ OnlyIn o (o + 1) w1 wr) (fun _ _ _ i _ => S - (intOf i).toNat)
  case atStart => exact ⟨0, by omega, rfl, hc1, hf1, OnlyIn.refl _ _ _⟩
  case round =>
    clear hc1 hf1
    obtain ⟨y, hy, rfl, co, fo, hon⟩ := hrel
    have xc0 := (only_cell hon (b := w.heap.size) (by omega) (by omega) 0).trans hx1.2.1
    have xc1 := (only_cell hon (b := w.heap.size) (by omega) (by omega) 1).trans hx1.2.2
    by_cases hyl : y < S
    · have y0 : (0 : Int) ≤ (y : Int) := by omega
      have y3 : (y : Int) < (S : Int) := by omega
      go_wp2_with fail
      clear xc0 xc1
      go_loopw [5, 6, 14] (fun _ _ i wr => ∃ x : Nat, x ≤ S ∧ i = .int .i64 x ∧ wr.cell? ⟨o, 0, none⟩ = some (.int .i64 (leastC zs (prs S f y ++ prsRow S f y x))) ∧ wr.frozen? ⟨o, 0, none⟩ = false ∧ OnlyIn o (o + 1) w1 wr) (fun _ _ i _ => S - (intOf i).toNat)
      case atStart => exact ⟨0, by omega, rfl, by rw [show prs S f y ++ prsRow S f y 0 = prs S f y from List.append_nil _]; exact co, fo, hon⟩
      case round =>
        clear co fo hon
        obtain ⟨x, hx, rfl, co, fo, hon⟩ := hrel
        have xc0 := (only_cell hon (b := w.heap.size) (by omega) (by omega) 0).trans hx1.2.1
        have xc1 := (only_cell hon (b := w.heap.size) (by omega) (by omega) 1).trans hx1.2.2
        by_cases hxl : x < S
        · have x0 : (0 : Int) ≤ (x : Int) := by omega
          have x3 : (x : Int) < (S : Int) := by omega
          obtain ⟨k, hk⟩ : ∃ k, k = y * S + x := ⟨_, rfl⟩
          have HK := Lib.hid hk
          have hkn : k < n := by rw [hk]; exact HIN.out _ _ hxl hyl
          have okk := HOK.out k hkn
          have ck := cellOk_t okk
          clear hk
          obtain ⟨L00, hL00⟩ : ∃ L, L = prs S f y ++ prsRow S f y x := ⟨_, rfl⟩
          have HL00 := Lib.hid hL00
          rw [← hL00] at co
          have HP0 := Lib.hid (show ∀ p ∈ L00, isPr p by rw [hL00]; intro p hp; rcases List.mem_append.1 hp with q | q; exact HALLS.out y (by omega) p q; exact HALLR.out y hyl x (by omega) p q)
          have HE0 := Lib.hid (show L00.length ≤ 60 by rw [hL00, List.length_append]; have e1 := prs_len S f y; have e2 := prsRow_len S f y x; have e3 := Nat.mul_le_mul (show S ≤ 4 by omega) (show y ≤ 4 by omega); omega)
          clear hL00
          go_wp2_with fail
          refine (impl_cellAt S A n c f x y B _ (only_rowP hP1 hon hBo hB1) (by have := hon.size; omega) HO.out hxl hyl).mono ?_
          rintro e w2 ⟨rfl, hb2⟩
          rw [← HK.out]
          have z2 := hb2.size
          have zr := hon.size
          have hon2 := (hon.below hb2).alloc (.cells #[.int .i64 (f k 0), .int .i64 (f k 1), .int .i64 (f k 2)] 56)
          have co2 := (((Below.refl _ _).alloc (Nat.le_refl _) (.cells #[.int .i64 (f k 0), .int .i64 (f k 1), .int .i64 (f k 2)] 56)).cell (p := ⟨o, 0, none⟩) (show o < w2.heap.size by omega)).trans ((hb2.cell (p := ⟨o, 0, none⟩) (show o < wr.heap.size by omega)).trans co)
          have fo2 := (((Below.refl _ _).alloc (Nat.le_refl _) (.cells #[.int .i64 (f k 0), .int .i64 (f k 1), .int .i64 (f k 2)] 56)).frozen (p := ⟨o, 0, none⟩) (show o < w2.heap.size by omega)).trans ((hb2.frozen (p := ⟨o, 0, none⟩) (show o < wr.heap.size by omega)).trans fo)
          have GC := heap_alloc_new w2 (.cells #[.int .i64 (f k 0), .int .i64 (f k 1), .int .i64 (f k 2)] 56)
          clear xc0 xc1
          go_wp2_with fail
          refine (leastfn Av m cv zs B o v (f k 1) (f k 2) L00 _ (only_rowI hI1 hon2 hBo hB1) hm hz hov (by simp; omega) ((only_cell hon2 hv1z hov2 0).trans hv1) co2 fo2 (by have hall := HP0.out; have hl := HE0.out; have hh := leastC_bd hz hall; omega) ck.2.1 ck.2.2.1).mono ?_
          rintro e w3 ⟨rfl, co, fo, ho3⟩
          have hon_a := hon2.trans ho3
          have GC0 : (w2.alloc (.cells #[.int .i64 (f k 0), .int .i64 (f k 1), .int .i64 (f k 2)] 56)).cell? ⟨w2.heap.size, 0, none⟩ = some (.int .i64 (f k 0)) := by go_simp
          have GC1 : (w2.alloc (.cells #[.int .i64 (f k 0), .int .i64 (f k 1), .int .i64 (f k 2)] 56)).cell? ⟨w2.heap.size, 1, none⟩ = some (.int .i64 (f k 1)) := by go_simp
          have GC2 : (w2.alloc (.cells #[.int .i64 (f k 0), .int .i64 (f k 1), .int .i64 (f k 2)] 56)).cell? ⟨w2.heap.size, 2, none⟩ = some (.int .i64 (f k 2)) := by go_simp
          have cc0 := (only_cell ho3 (b := w2.heap.size) (by simp) (by omega) 0).trans GC0
          have cc1 := (only_cell ho3 (b := w2.heap.size) (by simp) (by omega) 1).trans GC1
          have cc2 := (only_cell ho3 (b := w2.heap.size) (by simp) (by omega) 2).trans GC2
          have zg0 : w2.heap.size < w3.heap.size := by have e := ho3.size; simp at e; omega
          have xc0 := (only_cell hon_a (b := w.heap.size) (by omega) (by omega) 0).trans hx1.2.1
          have xc1 := (only_cell hon_a (b := w.heap.size) (by omega) (by omega) 1).trans hx1.2.2
          obtain ⟨gc, hgc⟩ : ∃ gc, gc = w2.heap.size := ⟨_, rfl⟩
          rw [← hgc] at cc0 cc1 cc2 zg0 ⊢
          have zg1 : o < gc := by omega
          have zg2 : w.heap.size < gc := by omega
          obtain ⟨L0, hL0⟩ : ∃ L, L = L00 ++ prs0 f k := ⟨_, rfl⟩
          have HL0 := Lib.hid (show L0 = prs S f y ++ prsRow S f y x ++ prs0 f k by rw [hL0, HL00.out])
          replace co : w3.cell? ⟨o, 0, none⟩ = some (.int .i64 (leastC zs L0)) := by rw [hL0]; exact co
          have HALL := Lib.hid (show ∀ p ∈ L0, isPr p by rw [hL0]; intro p hp; rcases List.mem_append.1 hp with e | e; exact HP0.out p e; exact isPr0 okk p e)
          have HLEN := Lib.hid (show L0.length ≤ 61 by rw [hL0, List.length_append]; have e1 := HE0.out; have e2 : (prs0 f k).length = 1 := rfl; omega)
          obtain ⟨xn, hxn0⟩ : ∃ q, q = x + 1 := ⟨_, rfl⟩
          obtain ⟨yn, hyn0⟩ : ∃ q, q = y + 1 := ⟨_, rfl⟩
          have t1 : (x : Int) + 1 = (xn : Int) := by omega
          have t2 : IntKind.i64.wrap ((x : Int) + 1) = (xn : Int) := by rw [t1]; exact IntWalk.i64_in _ (by omega)
          have t3 : (y : Int) + 1 = (yn : Int) := by omega
          have t4 : IntKind.i64.wrap ((y : Int) + 1) = (yn : Int) := by rw [t3]; exact IntWalk.i64_in _ (by omega)
          have t9 : IntKind.i64.wrap (xn : Int) = (xn : Int) := IntWalk.i64_in _ (by omega)
          have t10 : IntKind.i64.wrap (yn : Int) = (yn : Int) := IntWalk.i64_in _ (by omega)
          have t5 : x + 1 ≤ xn := by omega
          have t6 : xn ≤ x + 1 := by omega
          have t7 : y + 1 ≤ yn := by omega
          have t8 : yn ≤ y + 1 := by omega
          have HX := Lib.hid hxn0
          have HY := Lib.hid hyn0
          clear hgc hL0 hxn0 hyn0 co2 fo2 hon2 ho3 GC0 GC1 GC2 hb2 hon
          rcases Nat.lt_or_ge xn S with hxn | hxn
          · have d1 : (xn : Int) < (S : Int) := by omega
            rcases Nat.lt_or_ge yn S with hyn | hyn
            · have d2 : (yn : Int) < (S : Int) := by omega
              obtain ⟨q, hq⟩ : ∃ q, q = y * S + xn := ⟨_, rfl⟩
              have HQ := Lib.hid hq
              have hqn : q < n := by rw [hq]; exact HIN.out _ _ hxn hyl
              have okq := HOK.out q hqn
              have ca := colorAt_bd okk (side := 2) (by decide)
              have cd := colorAt_bd okq (side := 0) (by decide)
              have zw := hon_a.size
              have hPw := only_rowP hP1 hon_a hBo hB1
              clear hq
              go_wp2_with fail
              go_region_held3 (fun w' => w'.cell? ⟨w.heap.size, 0, none⟩ = some (.int .i64 S) ∧ w'.cell? ⟨w.heap.size, 1, none⟩ = some (.slice A n c) ∧ w'.cell? ⟨gc, 0, none⟩ = some (.int .i64 (f k 0)) ∧ w'.cell? ⟨gc, 1, none⟩ = some (.int .i64 (f k 1)) ∧ w'.cell? ⟨gc, 2, none⟩ = some (.int .i64 (f k 2))) (first | go_keep | (exact ⟨s0, s1, s2, s3, s4⟩)) (first
                | (go_at_call 96; refine Calls.mono (impl_cellAt S A n c f xn y B _ (by exact hPw) (by exact Nat.le_trans hB1 zw) HO.out hxn hyl) ?_; rintro e wc0 ⟨rfl, hbc0⟩; rw [← HQ.out]; replace hbc0 := below_drew hbc0; obtain ⟨hcc0, hfc0⟩ := bcell hbc0; have zc0 := hbc0.size; have s0 := (hcc0 w.heap.size 0 (by omega)).trans xc0; have s1 := (hcc0 w.heap.size 1 (by omega)).trans xc1; have s2 := (hcc0 gc 0 (by omega)).trans cc0; have s3 := (hcc0 gc 1 (by omega)).trans cc1; have s4 := (hcc0 gc 2 (by omega)).trans cc2; have hon_p := hon_a.below hbc0; have co0 := (hcc0 o 0 (by omega)).trans co; have fo0 := (hfc0 o 0 (by omega)).trans fo; clear hcc0 hfc0 hbc0)
                | (go_at_call 78; with_reducible refine Calls.mono (impl_sides (f k) (f q) true _) ?_; rintro e wc1 ⟨rfl, hbc1⟩; obtain ⟨hcc1, hfc1⟩ := bcell hbc1; have zc1 := hbc1.size; have s0 := (hcc1 w.heap.size 0 (by omega)).trans s0; have s1 := (hcc1 w.heap.size 1 (by omega)).trans s1; have s2 := (hcc1 gc 0 (by omega)).trans s2; have s3 := (hcc1 gc 1 (by omega)).trans s3; have s4 := (hcc1 gc 2 (by omega)).trans s4; have hon_q := hon_p.below hbc1; have co1 := (hcc1 o 0 (by omega)).trans co0; have fo1 := (hfc1 o 0 (by omega)).trans fo0; clear hcc1 hfc1 hbc1)
                | (go_at_call 70; with_reducible refine Calls.mono (leastfn Av m cv zs B o v (colorAt (f k) 2) (colorAt (f q) 0) L0 _ (only_rowI hI1 hon_q hBo hB1) hm hz hov (by omega) ((only_cell hon_q hv1z hov2 0).trans hv1) co1 fo1 (by have hall := HALL.out; have hl := HLEN.out; have hh := leastC_bd hz hall; omega) ca cd) ?_; rintro e wc2 ⟨rfl, co2, fo2, hon2⟩; have hon_c0 := hon_q.trans hon2; have cc0 := (only_cell hon2 (b := gc) (by omega) (by omega) 0).trans s2; have cc1 := (only_cell hon2 (b := gc) (by omega) (by omega) 1).trans s3; have cc2 := (only_cell hon2 (b := gc) (by omega) (by omega) 2).trans s4; have xc0 := (only_cell hon2 (b := w.heap.size) (by omega) (by omega) 0).trans s0; have xc1 := (only_cell hon2 (b := w.heap.size) (by omega) (by omega) 1).trans s1; have zc2 := hon2.size; have s0 := xc0; have s1 := xc1; have s2 := cc0; have s3 := cc1; have s4 := cc2))
              have HQ2 := Lib.hid (show q = k + 1 by have e1 := HQ.out; have e2 := HK.out; have e3 := HX.out; rw [e3] at e1; omega)
              rw [HQ2.out] at co2
              have co : wc2.cell? ⟨o, 0, none⟩ = some (.int .i64 (leastC zs (L0 ++ prsR f k))) := co2
              have fo := fo2
              obtain ⟨L1, hL1⟩ : ∃ L, L = L0 ++ prsR f k := ⟨_, rfl⟩
              have HL1 := Lib.hid hL1
              rw [← hL1] at co
              have HALL2 := Lib.hid (show ∀ p ∈ L1, isPr p by rw [hL1]; intro p hp; rcases List.mem_append.1 hp with e | e; exact HALL.out p e; exact isPrR okk (by rw [← HQ2.out]; exact okq) p e)
              have HLEN2 := Lib.hid (show L1.length ≤ 62 by rw [hL1, List.length_append]; have e1 := HLEN.out; have e2 : (prsR f k).length = 1 := rfl; omega)
              clear hPw hL1 co2 fo2 hon2 s0 s1 s2 s3 s4 co0 co1 fo0 fo1 hon_p hon_q HALL HLEN HQ HQ2 okq cd ca hqn
              have HALL := HALL2
              have HLEN := HLEN2
              clear HALL2 HLEN2
              obtain ⟨q, hq⟩ : ∃ q, q = yn * S + x := ⟨_, rfl⟩
              have HQ := Lib.hid hq
              have hqn : q < n := by rw [hq]; exact HIN.out _ _ hxl hyn
              have okq := HOK.out q hqn
              have ca := colorAt_bd okk (side := 3) (by decide)
              have cd := colorAt_bd okq (side := 1) (by decide)
              have zw := hon_c0.size
              have hPw := only_rowP hP1 hon_c0 hBo hB1
              clear hq
              go_wp2_with fail
              go_region_held3 (fun w' => w'.cell? ⟨w.heap.size, 0, none⟩ = some (.int .i64 S) ∧ w'.cell? ⟨w.heap.size, 1, none⟩ = some (.slice A n c) ∧ w'.cell? ⟨gc, 0, none⟩ = some (.int .i64 (f k 0)) ∧ w'.cell? ⟨gc, 1, none⟩ = some (.int .i64 (f k 1)) ∧ w'.cell? ⟨gc, 2, none⟩ = some (.int .i64 (f k 2))) (first | go_keep | (exact ⟨s0, s1, s2, s3, s4⟩)) (first
                | (go_at_call 96; refine Calls.mono (impl_cellAt S A n c f x yn B _ (by exact hPw) (by exact Nat.le_trans hB1 zw) HO.out hxl hyn) ?_; rintro e wc0 ⟨rfl, hbc0⟩; rw [← HQ.out]; replace hbc0 := below_drew hbc0; obtain ⟨hcc0, hfc0⟩ := bcell hbc0; have zc0 := hbc0.size; have s0 := (hcc0 w.heap.size 0 (by omega)).trans xc0; have s1 := (hcc0 w.heap.size 1 (by omega)).trans xc1; have s2 := (hcc0 gc 0 (by omega)).trans cc0; have s3 := (hcc0 gc 1 (by omega)).trans cc1; have s4 := (hcc0 gc 2 (by omega)).trans cc2; have hon_p := hon_c0.below hbc0; have co0 := (hcc0 o 0 (by omega)).trans co; have fo0 := (hfc0 o 0 (by omega)).trans fo; clear hcc0 hfc0 hbc0)
                | (go_at_call 78; with_reducible refine Calls.mono (impl_sides (f k) (f q) false _) ?_; rintro e wc1 ⟨rfl, hbc1⟩; obtain ⟨hcc1, hfc1⟩ := bcell hbc1; have zc1 := hbc1.size; have s0 := (hcc1 w.heap.size 0 (by omega)).trans s0; have s1 := (hcc1 w.heap.size 1 (by omega)).trans s1; have s2 := (hcc1 gc 0 (by omega)).trans s2; have s3 := (hcc1 gc 1 (by omega)).trans s3; have s4 := (hcc1 gc 2 (by omega)).trans s4; have hon_q := hon_p.below hbc1; have co1 := (hcc1 o 0 (by omega)).trans co0; have fo1 := (hfc1 o 0 (by omega)).trans fo0; clear hcc1 hfc1 hbc1)
                | (go_at_call 70; with_reducible refine Calls.mono (leastfn Av m cv zs B o v (colorAt (f k) 3) (colorAt (f q) 1) L1 _ (only_rowI hI1 hon_q hBo hB1) hm hz hov (by omega) ((only_cell hon_q hv1z hov2 0).trans hv1) co1 fo1 (by have hall := HALL.out; have hl := HLEN.out; have hh := leastC_bd hz hall; omega) ca cd) ?_; rintro e wc2 ⟨rfl, co2, fo2, hon2⟩; have hon_c1 := hon_q.trans hon2; have cc0 := (only_cell hon2 (b := gc) (by omega) (by omega) 0).trans s2; have cc1 := (only_cell hon2 (b := gc) (by omega) (by omega) 1).trans s3; have cc2 := (only_cell hon2 (b := gc) (by omega) (by omega) 2).trans s4; have xc0 := (only_cell hon2 (b := w.heap.size) (by omega) (by omega) 0).trans s0; have xc1 := (only_cell hon2 (b := w.heap.size) (by omega) (by omega) 1).trans s1; have zc2 := hon2.size; have s0 := xc0; have s1 := xc1; have s2 := cc0; have s3 := cc1; have s4 := cc2))
              have HQ2 := Lib.hid (show q = k + S by have e1 := HQ.out; have e2 := HK.out; have e3 := HY.out; rw [e3, Nat.succ_mul] at e1; omega)
              rw [HQ2.out] at co2
              have co : wc2.cell? ⟨o, 0, none⟩ = some (.int .i64 (leastC zs (L1 ++ prsB S f k))) := co2
              have fo := fo2
              obtain ⟨L2, hL2⟩ : ∃ L, L = L1 ++ prsB S f k := ⟨_, rfl⟩
              have HL2 := Lib.hid hL2
              rw [← hL2] at co
              have HALL2 := Lib.hid (show ∀ p ∈ L2, isPr p by rw [hL2]; intro p hp; rcases List.mem_append.1 hp with e | e; exact HALL.out p e; exact isPrB okk (by rw [← HQ2.out]; exact okq) p e)
              have HLEN2 := Lib.hid (show L2.length ≤ 63 by rw [hL2, List.length_append]; have e1 := HLEN.out; have e2 : (prsB S f k).length = 1 := rfl; omega)
              clear hPw hL2 co2 fo2 hon2 s0 s1 s2 s3 s4 co0 co1 fo0 fo1 hon_p hon_q HALL HLEN HQ HQ2 okq cd ca hqn
              have HALL := HALL2
              have HLEN := HLEN2
              clear HALL2 HLEN2
              have HF := Lib.hid (show prs S f y ++ prsRow S f y xn = L2 by rw [HX.out, show prsRow S f y (x + 1) = prsRow S f y x ++ prsAt S f y x from rfl]; unfold prsAt; rw [← HK.out, if_pos (show x + 1 < S by have e := HX.out; omega), if_pos (show y + 1 < S by have e := HY.out; omega), HL2.out, HL1.out, HL0.out]; simp [List.append_assoc])
              rw [← HF.out] at co
              clear cc0 cc1 cc2
              go_wp2
              go_roundw
              case rel => exact ⟨xn, by omega, by first | rfl | go_num, co, fo, hon_c1⟩
              case measure => simp [intOf]; omega
            · have d2 : ¬ (yn : Int) < (S : Int) := by omega
              obtain ⟨q, hq⟩ : ∃ q, q = y * S + xn := ⟨_, rfl⟩
              have HQ := Lib.hid hq
              have hqn : q < n := by rw [hq]; exact HIN.out _ _ hxn hyl
              have okq := HOK.out q hqn
              have ca := colorAt_bd okk (side := 2) (by decide)
              have cd := colorAt_bd okq (side := 0) (by decide)
              have zw := hon_a.size
              have hPw := only_rowP hP1 hon_a hBo hB1
              clear hq
              go_wp2_with fail
              go_region_held3 (fun w' => w'.cell? ⟨w.heap.size, 0, none⟩ = some (.int .i64 S) ∧ w'.cell? ⟨w.heap.size, 1, none⟩ = some (.slice A n c) ∧ w'.cell? ⟨gc, 0, none⟩ = some (.int .i64 (f k 0)) ∧ w'.cell? ⟨gc, 1, none⟩ = some (.int .i64 (f k 1)) ∧ w'.cell? ⟨gc, 2, none⟩ = some (.int .i64 (f k 2))) (first | go_keep | (exact ⟨s0, s1, s2, s3, s4⟩)) (first
                | (go_at_call 96; refine Calls.mono (impl_cellAt S A n c f xn y B _ (by exact hPw) (by exact Nat.le_trans hB1 zw) HO.out hxn hyl) ?_; rintro e wc0 ⟨rfl, hbc0⟩; rw [← HQ.out]; replace hbc0 := below_drew hbc0; obtain ⟨hcc0, hfc0⟩ := bcell hbc0; have zc0 := hbc0.size; have s0 := (hcc0 w.heap.size 0 (by omega)).trans xc0; have s1 := (hcc0 w.heap.size 1 (by omega)).trans xc1; have s2 := (hcc0 gc 0 (by omega)).trans cc0; have s3 := (hcc0 gc 1 (by omega)).trans cc1; have s4 := (hcc0 gc 2 (by omega)).trans cc2; have hon_p := hon_a.below hbc0; have co0 := (hcc0 o 0 (by omega)).trans co; have fo0 := (hfc0 o 0 (by omega)).trans fo; clear hcc0 hfc0 hbc0)
                | (go_at_call 78; with_reducible refine Calls.mono (impl_sides (f k) (f q) true _) ?_; rintro e wc1 ⟨rfl, hbc1⟩; obtain ⟨hcc1, hfc1⟩ := bcell hbc1; have zc1 := hbc1.size; have s0 := (hcc1 w.heap.size 0 (by omega)).trans s0; have s1 := (hcc1 w.heap.size 1 (by omega)).trans s1; have s2 := (hcc1 gc 0 (by omega)).trans s2; have s3 := (hcc1 gc 1 (by omega)).trans s3; have s4 := (hcc1 gc 2 (by omega)).trans s4; have hon_q := hon_p.below hbc1; have co1 := (hcc1 o 0 (by omega)).trans co0; have fo1 := (hfc1 o 0 (by omega)).trans fo0; clear hcc1 hfc1 hbc1)
                | (go_at_call 70; with_reducible refine Calls.mono (leastfn Av m cv zs B o v (colorAt (f k) 2) (colorAt (f q) 0) L0 _ (only_rowI hI1 hon_q hBo hB1) hm hz hov (by omega) ((only_cell hon_q hv1z hov2 0).trans hv1) co1 fo1 (by have hall := HALL.out; have hl := HLEN.out; have hh := leastC_bd hz hall; omega) ca cd) ?_; rintro e wc2 ⟨rfl, co2, fo2, hon2⟩; have hon_c0 := hon_q.trans hon2; have cc0 := (only_cell hon2 (b := gc) (by omega) (by omega) 0).trans s2; have cc1 := (only_cell hon2 (b := gc) (by omega) (by omega) 1).trans s3; have cc2 := (only_cell hon2 (b := gc) (by omega) (by omega) 2).trans s4; have xc0 := (only_cell hon2 (b := w.heap.size) (by omega) (by omega) 0).trans s0; have xc1 := (only_cell hon2 (b := w.heap.size) (by omega) (by omega) 1).trans s1; have zc2 := hon2.size; have s0 := xc0; have s1 := xc1; have s2 := cc0; have s3 := cc1; have s4 := cc2))
              have HQ2 := Lib.hid (show q = k + 1 by have e1 := HQ.out; have e2 := HK.out; have e3 := HX.out; rw [e3] at e1; omega)
              rw [HQ2.out] at co2
              have co : wc2.cell? ⟨o, 0, none⟩ = some (.int .i64 (leastC zs (L0 ++ prsR f k))) := co2
              have fo := fo2
              obtain ⟨L1, hL1⟩ : ∃ L, L = L0 ++ prsR f k := ⟨_, rfl⟩
              have HL1 := Lib.hid hL1
              rw [← hL1] at co
              have HALL2 := Lib.hid (show ∀ p ∈ L1, isPr p by rw [hL1]; intro p hp; rcases List.mem_append.1 hp with e | e; exact HALL.out p e; exact isPrR okk (by rw [← HQ2.out]; exact okq) p e)
              have HLEN2 := Lib.hid (show L1.length ≤ 62 by rw [hL1, List.length_append]; have e1 := HLEN.out; have e2 : (prsR f k).length = 1 := rfl; omega)
              clear hPw hL1 co2 fo2 hon2 s0 s1 s2 s3 s4 co0 co1 fo0 fo1 hon_p hon_q HALL HLEN HQ HQ2 okq cd ca hqn
              have HALL := HALL2
              have HLEN := HLEN2
              clear HALL2 HLEN2
              have HF := Lib.hid (show prs S f y ++ prsRow S f y xn = L1 by rw [HX.out, show prsRow S f y (x + 1) = prsRow S f y x ++ prsAt S f y x from rfl]; unfold prsAt; rw [← HK.out, if_pos (show x + 1 < S by have e := HX.out; omega), if_neg (show ¬ y + 1 < S by have e := HY.out; omega), HL1.out, HL0.out]; simp [List.append_assoc])
              rw [← HF.out] at co
              clear cc0 cc1 cc2
              go_wp2
              go_roundw
              case rel => exact ⟨xn, by omega, by first | rfl | go_num, co, fo, hon_c0⟩
              case measure => simp [intOf]; omega
          · have d1 : ¬ (xn : Int) < (S : Int) := by omega
            rcases Nat.lt_or_ge yn S with hyn | hyn
            · have d2 : (yn : Int) < (S : Int) := by omega
              obtain ⟨q, hq⟩ : ∃ q, q = yn * S + x := ⟨_, rfl⟩
              have HQ := Lib.hid hq
              have hqn : q < n := by rw [hq]; exact HIN.out _ _ hxl hyn
              have okq := HOK.out q hqn
              have ca := colorAt_bd okk (side := 3) (by decide)
              have cd := colorAt_bd okq (side := 1) (by decide)
              have zw := hon_a.size
              have hPw := only_rowP hP1 hon_a hBo hB1
              clear hq
              go_wp2_with fail
              go_region_held3 (fun w' => w'.cell? ⟨w.heap.size, 0, none⟩ = some (.int .i64 S) ∧ w'.cell? ⟨w.heap.size, 1, none⟩ = some (.slice A n c) ∧ w'.cell? ⟨gc, 0, none⟩ = some (.int .i64 (f k 0)) ∧ w'.cell? ⟨gc, 1, none⟩ = some (.int .i64 (f k 1)) ∧ w'.cell? ⟨gc, 2, none⟩ = some (.int .i64 (f k 2))) (first | go_keep | (exact ⟨s0, s1, s2, s3, s4⟩)) (first
                | (go_at_call 96; refine Calls.mono (impl_cellAt S A n c f x yn B _ (by exact hPw) (by exact Nat.le_trans hB1 zw) HO.out hxl hyn) ?_; rintro e wc0 ⟨rfl, hbc0⟩; rw [← HQ.out]; replace hbc0 := below_drew hbc0; obtain ⟨hcc0, hfc0⟩ := bcell hbc0; have zc0 := hbc0.size; have s0 := (hcc0 w.heap.size 0 (by omega)).trans xc0; have s1 := (hcc0 w.heap.size 1 (by omega)).trans xc1; have s2 := (hcc0 gc 0 (by omega)).trans cc0; have s3 := (hcc0 gc 1 (by omega)).trans cc1; have s4 := (hcc0 gc 2 (by omega)).trans cc2; have hon_p := hon_a.below hbc0; have co0 := (hcc0 o 0 (by omega)).trans co; have fo0 := (hfc0 o 0 (by omega)).trans fo; clear hcc0 hfc0 hbc0)
                | (go_at_call 78; with_reducible refine Calls.mono (impl_sides (f k) (f q) false _) ?_; rintro e wc1 ⟨rfl, hbc1⟩; obtain ⟨hcc1, hfc1⟩ := bcell hbc1; have zc1 := hbc1.size; have s0 := (hcc1 w.heap.size 0 (by omega)).trans s0; have s1 := (hcc1 w.heap.size 1 (by omega)).trans s1; have s2 := (hcc1 gc 0 (by omega)).trans s2; have s3 := (hcc1 gc 1 (by omega)).trans s3; have s4 := (hcc1 gc 2 (by omega)).trans s4; have hon_q := hon_p.below hbc1; have co1 := (hcc1 o 0 (by omega)).trans co0; have fo1 := (hfc1 o 0 (by omega)).trans fo0; clear hcc1 hfc1 hbc1)
                | (go_at_call 70; with_reducible refine Calls.mono (leastfn Av m cv zs B o v (colorAt (f k) 3) (colorAt (f q) 1) L0 _ (only_rowI hI1 hon_q hBo hB1) hm hz hov (by omega) ((only_cell hon_q hv1z hov2 0).trans hv1) co1 fo1 (by have hall := HALL.out; have hl := HLEN.out; have hh := leastC_bd hz hall; omega) ca cd) ?_; rintro e wc2 ⟨rfl, co2, fo2, hon2⟩; have hon_c0 := hon_q.trans hon2; have cc0 := (only_cell hon2 (b := gc) (by omega) (by omega) 0).trans s2; have cc1 := (only_cell hon2 (b := gc) (by omega) (by omega) 1).trans s3; have cc2 := (only_cell hon2 (b := gc) (by omega) (by omega) 2).trans s4; have xc0 := (only_cell hon2 (b := w.heap.size) (by omega) (by omega) 0).trans s0; have xc1 := (only_cell hon2 (b := w.heap.size) (by omega) (by omega) 1).trans s1; have zc2 := hon2.size; have s0 := xc0; have s1 := xc1; have s2 := cc0; have s3 := cc1; have s4 := cc2))
              have HQ2 := Lib.hid (show q = k + S by have e1 := HQ.out; have e2 := HK.out; have e3 := HY.out; rw [e3, Nat.succ_mul] at e1; omega)
              rw [HQ2.out] at co2
              have co : wc2.cell? ⟨o, 0, none⟩ = some (.int .i64 (leastC zs (L0 ++ prsB S f k))) := co2
              have fo := fo2
              obtain ⟨L1, hL1⟩ : ∃ L, L = L0 ++ prsB S f k := ⟨_, rfl⟩
              have HL1 := Lib.hid hL1
              rw [← hL1] at co
              have HALL2 := Lib.hid (show ∀ p ∈ L1, isPr p by rw [hL1]; intro p hp; rcases List.mem_append.1 hp with e | e; exact HALL.out p e; exact isPrB okk (by rw [← HQ2.out]; exact okq) p e)
              have HLEN2 := Lib.hid (show L1.length ≤ 62 by rw [hL1, List.length_append]; have e1 := HLEN.out; have e2 : (prsB S f k).length = 1 := rfl; omega)
              clear hPw hL1 co2 fo2 hon2 s0 s1 s2 s3 s4 co0 co1 fo0 fo1 hon_p hon_q HALL HLEN HQ HQ2 okq cd ca hqn
              have HALL := HALL2
              have HLEN := HLEN2
              clear HALL2 HLEN2
              have HF := Lib.hid (show prs S f y ++ prsRow S f y xn = L1 by rw [HX.out, show prsRow S f y (x + 1) = prsRow S f y x ++ prsAt S f y x from rfl]; unfold prsAt; rw [← HK.out, if_neg (show ¬ x + 1 < S by have e := HX.out; omega), if_pos (show y + 1 < S by have e := HY.out; omega), HL1.out, HL0.out]; simp [List.append_assoc])
              rw [← HF.out] at co
              clear cc0 cc1 cc2
              go_wp2
              go_roundw
              case rel => exact ⟨xn, by omega, by first | rfl | go_num, co, fo, hon_c0⟩
              case measure => simp [intOf]; omega
            · have d2 : ¬ (yn : Int) < (S : Int) := by omega
              have HF := Lib.hid (show prs S f y ++ prsRow S f y xn = L0 by rw [HX.out, show prsRow S f y (x + 1) = prsRow S f y x ++ prsAt S f y x from rfl]; unfold prsAt; rw [← HK.out, if_neg (show ¬ x + 1 < S by have e := HX.out; omega), if_neg (show ¬ y + 1 < S by have e := HY.out; omega), HL0.out]; simp [List.append_assoc])
              rw [← HF.out] at co
              clear cc0 cc1 cc2
              go_wp2
              go_roundw
              case rel => exact ⟨xn, by omega, by first | rfl | go_num, co, fo, hon_a⟩
              case measure => simp [intOf]; omega
        · have x3 : ¬ (x : Int) < (S : Int) := by omega
          have HF := Lib.hid (show prs S f y ++ prsRow S f y x = prs S f (y + 1) by rw [show x = S by omega]; rfl)
          rw [HF.out] at co
          go_wp2
          go_roundw
          case rel => exact ⟨y + 1, by omega, by go_num, co, fo, hon⟩
          case measure => simp [intOf]; omega
    · have y3 : ¬ (y : Int) < (S : Int) := by omega
      have HF := Lib.hid (show prs S f y = prs S f S by rw [show y = S by omega])
      rw [HF.out] at co
      go_wp2
      go_end0
      exact ⟨rfl, co, ho1.trans hon⟩
end Go.Proofs.Ythenjmjnooaokaa
