/- Contracts of BlockText: the program's and the reference's. -/
import Derived.Test.YtheafiaemcmjaaaDoorTxC
import Derived.Test.YtheafiaemcmjaaaDoorPureBt
import Derived.Test.YtheafiaemcmjaaaDoorStrL
import Derived.Test.YtheafiaemcmjaaaDoorCellAt
namespace Go.Proofs.YtheafiaemcmjaaaDoor
open Go.ChangeShapes Go.WideShapes Go.ChangeAt Go.RowKit
theorem range_snoc {α : Type} (g : Nat → α) (k : Nat) : (List.range (k + 1)).map g = (List.range k).map g ++ [g k] := by rw [List.range_succ, List.map_append]; rfl
set_option maxRecDepth 100000 in
set_option maxHeartbeats 8000000 in
theorem impl_blockTx (s : Int) (A : Option Addr) (n c : Nat) (f : Nat → Nat → Int) (B : Nat) (w : World) (h : RowP 3 w B A n c f) (hB : B ≤ w.heap.size) :
    Calls Tryd.prog 20 #[.agg #[.int .i64 s, .slice A n c]] w fun e w' => e = .returned (.string (strB (blockTx s n f))) ∧ Below w.heap.size w w' := by
  have hb0 : Below w.heap.size w (w.alloc (.cells #[.int .i64 s, .slice A n c] 46)) := (Below.refl _ _).alloc (Nat.le_refl _) _
  have hx0 : BoxB (w.alloc (.cells #[.int .i64 s, .slice A n c] 46)) w.heap.size s (.slice A n c) := ⟨by simp, by go_simp, by go_simp⟩
  go_enter Tryd.func20, Tryd.ntmps20
  go_wp2_with fail
  refine (impl_blockOk s A n c f B _ (h.below' ((Below.refl w.heap.size w).alloc (Nat.le_refl _) _) hB) (by simp; omega)).mono ?_
  rintro e w1 ⟨rfl, hb1⟩
  have z1 : w.heap.size < w1.heap.size := by have := hb1.size; simp at this; omega
  have hx1 := hx0.below hb1 (by simp)
  have hb2 := hb0.trans (hb1.mono (by simp))
  clear hb1 hx0 hb0
  rcases (Bool.eq_false_or_eq_true (blockOk s n f)).symm with hO | hO
  · have HE := Lib.hid (blockTx_no hO)
    rw [hO]
    go_wp2
    go_ret
    exact ⟨by rw [HE.out]; rfl, hb2⟩
  have hP := block_of hO
  have s4 := hP.s4
  have s1 := hP.s1
  obtain ⟨S, rfl⟩ : ∃ S : Nat, s = S := ⟨s.toNat, by omega⟩
  have HE := Lib.hid (show blockTx (S : Int) n f = joinTo (rowTx S f) [59] S by
    have hsq : n = S * S := by have h2 := hP.sq; have h3 : ((S * S : Nat) : Int) = (S : Int) * (S : Int) := by simp
                               omega
    unfold blockTx; rw [if_pos hO, rows_bTx (by omega) (by omega), hsq]; rfl)
  have HO := Lib.hid hO
  rw [hO]
  clear hO hP
  have h1 : RowP 3 w1 B A n c f := h.below' hb2 hB
  have B1 : B ≤ w1.heap.size := by omega
  obtain ⟨xz, xc0, xc1⟩ := id hx1
  go_wp2_with fail
  clear xz xc0 xc1
  have hoz := ownT_empty w1
  have hx2 : BoxB (w1.alloc (.cells #[] 9)) w.heap.size S (.slice A n c) := hx1.below ((Below.refl w1.heap.size w1).alloc (Nat.le_refl _) _) hx1.1
  have hb3 : Below w1.heap.size w1 (w1.alloc (.cells #[] 9)) := (Below.refl _ _).alloc (Nat.le_refl _) _
  go_loopw [3, 4, 5, 6, 13, 19] (fun v _ _ _ i _ wr => ∃ (y : Nat) (A2 : Option Addr) (c2 : Nat), y ≤ S ∧ i = .int .i64 y ∧ v = .slice A2 y c2 ∧ OwnT wr w1.heap.size (.slice A2 y c2) ((List.range y).map (rowTx S f)) ∧ Below w1.heap.size w1 wr) (fun _ _ _ _ i _ _ => S - (intOf i).toNat)
  case atStart => exact ⟨0, _, 0, by omega, rfl, rfl, hoz, hb3⟩
  case round =>
    clear hoz hx2 hb3
    obtain ⟨y, A2, c2, hy, rfl, rfl, hown, hb⟩ := hrel
    have hbw := hb.size
    have hxo : BoxB wr w.heap.size S (.slice A n c) := hx1.below hb hx1.1
    by_cases hys : y < S
    · have y0 : (0 : Int) ≤ (y : Int) := by omega
      have y3 : (y : Int) < (S : Int) := by omega
      obtain ⟨xz, xc0, xc1⟩ := id hxo
      go_wp2_with fail
      clear xz xc0 xc1
      obtain ⟨wo, hwo⟩ : ∃ wo, wo = wr := ⟨_, rfl⟩
      rw [← hwo] at hown hb hbw hxo ⊢
      have hoz := ownT_empty wo
      have hb4 : Below wo.heap.size wo (wo.alloc (.cells #[] 9)) := (Below.refl _ _).alloc (Nat.le_refl _) _
      clear hwo
      go_loopw [5, 6, 19] (fun v _ i wi => ∃ (x : Nat) (A3 : Option Addr) (c3 : Nat), x ≤ S ∧ i = .int .i64 x ∧ v = .slice A3 x c3 ∧ OwnT wi wo.heap.size (.slice A3 x c3) ((List.range x).map fun x => cellTx (f (y * S + x))) ∧ Below wo.heap.size wo wi) (fun _ _ i _ => S - (intOf i).toNat)
      case atStart => exact ⟨0, _, 0, by omega, rfl, rfl, hoz, hb4⟩
      case round =>
        clear hoz hb4
        obtain ⟨x, A3, c3, hx, rfl, rfl, hor, hbi⟩ := hrel
        have zi := hbi.size
        have hxi : BoxB wr w.heap.size S (.slice A n c) := hxo.below hbi (by have := hxo.1; omega)
        by_cases hxs : x < S
        · have x0 : (0 : Int) ≤ (x : Int) := by omega
          have x3 : (x : Int) < (S : Int) := by omega
          obtain ⟨xz, xc0, xc1⟩ := id hxi
          go_wp2_with fail
          refine (impl_cellAt S A n c f x y B _ ((h1.below' hb B1).below' hbi (by omega)) (by omega) HO.out hxs hys).mono ?_
          rintro e w5 ⟨rfl, hb5⟩
          clear xz xc0 xc1
          go_wp2_with fail
          refine (impl_cellTx (f (y * S + x)) w5).mono ?_
          rintro e w6 ⟨rfl, hb6⟩
          have hor6 := (hor.keep hb5).keep hb6
          have z5 := hb5.size
          have z6 := hb6.size
          have hbi6 := (hbi.trans (hb5.mono zi)).trans (hb6.mono (by omega))
          have HS := Lib.hid (range_snoc (fun x => cellTx (f (y * S + x))) x)
          have HLn := Lib.hid (show ((List.range x).map fun x => cellTx (f (y * S + x))).length = x by simp)
          clear hor hbi hb5 hb6 hxi
          go_wp2_with (at_builtin; refine appT rfl _ _ rfl wo.heap.size _ _ (cellTx (f (y * S + x))) w6.heap.size x HLn.out rfl (hor6.alloc _) rfl (heap_alloc_new w6 _) (by rw [HLn.out]; omega) (by simp; omega) ?_; intro A4 c4 w7 ho7 hg7)
          have hb8 : Below wo.heap.size wo w7 := (hbi6.alloc hbi6.size _).grown hg7 (by simp; omega) (fun k hk => (World.ownsRow.lt hor6 k hk).1)
          rw [← HS.out] at ho7
          clear hg7 hor6 hbi6
          go_roundw
          case rel => exact ⟨x + 1, A4, c4, by omega, by go_num, rfl, ho7, hb8⟩
          case measure => simp [intOf]; omega
        · obtain rfl : x = S := by omega
          have x3 : ¬ (x : Int) < (x : Int) := by omega
          obtain ⟨g, rfl⟩ : ∃ g, A3 = some ⟨g, 0, none⟩ := by
            rcases hor.form.2.2 with ⟨_, hbad⟩ | ⟨g, hg, _⟩
            · omega
            · exact ⟨g, hg⟩
          have HJ := Lib.hid (show Lib.join ((List.range x).map fun x_1 => cellTx (f (y * x + x_1))) [44] = rowTx x f y by rw [join_to]; rfl)
          have hJl := rowTx_len (S := x) (by omega) f y
          go_wp2_with fail
          refine (join_own wo.heap.size g x c3 _ [44] wr hor (by omega) (by rw [HJ.out]; omega)).mono ?_
          rintro e w5 ⟨rfl, hb5⟩
          rw [HJ.out]
          have z5 := hb5.size
          have hown5 := (hown.keep hbi).keep hb5
          have hb6 := (hb.trans (hbi.mono hbw)).trans (hb5.mono (by omega))
          have HS := Lib.hid (range_snoc (rowTx x f) y)
          have HLn := Lib.hid (show ((List.range y).map (rowTx x f)).length = y by simp)
          clear hor hbi hb5 hxi hown hb hJl
          go_wp2_with (at_builtin; refine appT rfl _ _ rfl w1.heap.size _ _ (rowTx x f y) w5.heap.size y HLn.out rfl (hown5.alloc _) rfl (heap_alloc_new w5 _) (by rw [HLn.out]; omega) (by simp; omega) ?_; intro A4 c4 w7 ho7 hg7)
          have hb8 : Below w1.heap.size w1 w7 := (hb6.alloc hb6.size _).grown hg7 (by simp; omega) (fun k hk => (World.ownsRow.lt hown5 k hk).1)
          rw [← HS.out] at ho7
          clear hg7 hown5 hb6
          go_roundw
          case rel => exact ⟨y + 1, A4, c4, by omega, by go_num, rfl, ho7, hb8⟩
          case measure => simp [intOf]; omega
    · obtain rfl : y = S := by omega
      have y3 : ¬ (y : Int) < (y : Int) := by omega
      obtain ⟨g, rfl⟩ : ∃ g, A2 = some ⟨g, 0, none⟩ := by
        rcases hown.form.2.2 with ⟨_, hbad⟩ | ⟨g, hg, _⟩
        · omega
        · exact ⟨g, hg⟩
      have HJ := Lib.hid (show Lib.join ((List.range y).map (rowTx y f)) [59] = blockTx (y : Int) n f by rw [join_to, HE.out])
      have hJl := joinTo_len (g := rowTx y f) (sep := [59]) (m := 16) rfl y (fun i _ => rowTx_len (by omega) f i)
      rw [← HE.out] at hJl
      go_wp2_with fail
      refine (join_own w1.heap.size g y c2 _ [59] wr hown (by omega) (by rw [HJ.out]; omega)).mono ?_
      rintro e w5 ⟨rfl, hb5⟩
      rw [HJ.out]
      have hb6 := (hb2.trans (hb.mono (by omega))).trans (hb5.mono (by omega))
      go_wp2
      go_ret
      exact ⟨rfl, hb6⟩
set_option maxRecDepth 100000 in
set_option maxHeartbeats 8000000 in
theorem spec_blockTx (s : Int) (A : Option Addr) (n c : Nat) (f : Nat → Nat → Int) (B : Nat) (w : World) (h : RowP 3 w B A n c f) (hB : B ≤ w.heap.size) :
    Calls Tryd.prog 18 #[.agg #[.int .i64 s, .slice A n c]] w fun e w' => e = .returned (.string (strB (blockTx s n f))) ∧ Below w.heap.size w w' := by
  have hcap := h.cap
  unfold maxLen at hcap
  have hb0 : Below w.heap.size w (w.alloc (.cells #[.int .i64 s, .slice A n c] 46)) := (Below.refl _ _).alloc (Nat.le_refl _) _
  have hx0 : BoxB (w.alloc (.cells #[.int .i64 s, .slice A n c] 46)) w.heap.size s (.slice A n c) := ⟨by simp, by go_simp, by go_simp⟩
  rcases (Bool.eq_false_or_eq_true (blockOk s n f)).symm with hO | hO
  · have HE := Lib.hid (blockTx_no hO)
    have HO := Lib.hid hO
    clear hO
    go_enter Tryd.func18, Tryd.ntmps18
    go_wp2_with fail
    go_loopw [3, 4] (fun v i wr => i = .int .i64 0 ∧ v = .string (strB []) ∧ BoxB wr w.heap.size s (.slice A n c) ∧ Below w.heap.size w wr) (fun _ _ _ => 0)
    case atStart => exact ⟨rfl, rfl, hx0, hb0⟩
    case round =>
      clear hx0 hb0
      obtain ⟨rfl, rfl, hx, hb⟩ := hrel
      obtain ⟨xz, xc0, xc1⟩ := id hx
      rcases (by omega : n = 0 ∨ 0 < n) with q | q
      · subst q
        go_wp2
        go_ret
        exact ⟨by rw [HE.out]; rfl, hb⟩
      · have q2 : (0 : Int) < (n : Int) := by omega
        go_wp2_with fail
        refine (spec_blockOk s A n c f B wr (h.below' hb hB) (by have := hb.size; omega)).mono ?_
        rintro e w1 ⟨rfl, hb1⟩
        rw [HO.out]
        have hb2 := hb.trans (hb1.mono hb.size)
        go_wp2
        go_ret
        exact ⟨by rw [HE.out]; rfl, hb2⟩
  have hP := block_of hO
  have s4 := hP.s4
  have s1 := hP.s1
  have n16 := hP.n16
  obtain ⟨S, rfl⟩ : ∃ S : Nat, s = S := ⟨s.toNat, by omega⟩
  have HE := Lib.hid (show blockTx (S : Int) n f = bTx S f n by unfold blockTx; rw [if_pos hO]; rfl)
  have HO := Lib.hid hO
  clear hO hP
  go_enter Tryd.func18, Tryd.ntmps18
  go_wp2_with fail
  go_loopw [3, 4] (fun v i wr => ∃ k : Nat, k ≤ n ∧ i = .int .i64 k ∧ v = .string (strB (bTx S f k)) ∧ BoxB wr w.heap.size S (.slice A n c) ∧ Below w.heap.size w wr) (fun _ i _ => n - (intOf i).toNat)
  case atStart => exact ⟨0, by omega, rfl, rfl, hx0, hb0⟩
  case round =>
    clear hx0 hb0
    obtain ⟨k, hk, rfl, rfl, hx, hb⟩ := hrel
    have hbw := hb.size
    obtain ⟨xz, xc0, xc1⟩ := id hx
    by_cases hlt : k < n
    · have k0 : (0 : Int) ≤ (k : Int) := by omega
      have k3 : (k : Int) < (n : Int) := by omega
      go_wp2_with fail
      refine (spec_blockOk S A n c f B wr (h.below' hb hB) (by omega)).mono ?_
      rintro e w1 ⟨rfl, hb1⟩
      rw [HO.out]
      have z1 := hb1.size
      have hx1 := hx.below hb1 hx.1
      have hb2 := hb.trans (hb1.mono hbw)
      have h2 : RowP 3 w1 B A n c f := h.below' hb2 hB
      clear xz xc0 xc1 hx hb hb1
      obtain ⟨b, off, rfl, hbB, hc⟩ := h2.at_ hlt
      have x0 : w1.cell? ⟨b, off + k * 3, none⟩ = some (.int .i64 (f k 0)) := by exact hc 0 (by omega)
      have x1 : w1.cell? ⟨b, off + k * 3 + 1, none⟩ = some (.int .i64 (f k 1)) := by rw [Nat.add_assoc]; exact hc 1 (by omega)
      have x2 : w1.cell? ⟨b, off + k * 3 + 2, none⟩ = some (.int .i64 (f k 2)) := by rw [Nat.add_assoc]; exact hc 2 (by omega)
      obtain ⟨xz, xc0, xc1⟩ := id hx1
      have HS := Lib.hid (show bTx S f (k + 1) = bTx S f k ++ sepAt S k ++ cellTx (f k) from rfl)
      have hlen := bTx_len S f k
      obtain ⟨L, hL⟩ : ∃ L, L = bTx S f k := ⟨_, rfl⟩
      rw [← hL] at HS hlen ⊢
      obtain ⟨T, hT⟩ : ∃ T, T = L.length := ⟨_, rfl⟩
      have gs : (strB L).size = T := by rw [strB_size, hT]
      have T64 : T ≤ 64 := by omega
      have gc : (strB (cellTx (f k))).size ≤ 3 := by rw [strB_size]; exact cellTx_len _
      clear hc h2 hL hT hlen
      rcases (by omega : k = 0 ∨ 0 < k) with e | e
      · subst e
        simp only [Nat.zero_mul, Nat.add_zero] at x0 x1 x2
        have HR := Lib.hid (show strB L ++ strB (cellTx (f 0)) = strB (bTx S f (0 + 1)) by rw [HS.out, show sepAt S 0 = [] from rfl, List.append_nil, strB_app])
        go_wp2_with fail
        refine (spec_cellTx (f 0) _).mono ?_
        rintro e w2 ⟨rfl, hb3⟩
        have hx2 := hx1.below hb3 hx1.1
        have hb4 := hb2.trans (hb3.mono (by omega))
        clear xz xc0 xc1 x0 x1 x2 hx1 hb2 hb3
        go_wp2
        go_roundw
        case rel => exact ⟨0 + 1, by omega, by go_num, by rw [← HR.out], hx2, hb4⟩
        case measure => simp [intOf]; omega
      · have e3 : (0 : Int) < (k : Int) := by omega
        have d4 : ((S : Int) == 0) = false := beq_eq_false_iff_ne.2 (by omega)
        have d5 : ¬ S = 0 := by omega
        obtain ⟨m, hm⟩ : ∃ m, m = k % S := ⟨_, rfl⟩
        have t1 : (k : Int).tmod (S : Int) = (m : Int) := by rw [hm, Int.tmod_eq_emod_of_nonneg (by omega)]; rfl
        have t2 : (k : Int) % (S : Int) = (m : Int) := by rw [hm]; rfl
        rcases (by omega : m = 0 ∨ 0 < m) with r | r
        · have t1 : (k : Int).tmod (S : Int) = 0 := by rw [t1, r]; rfl
          have t2 : (k : Int) % (S : Int) = 0 := by rw [t2, r]; rfl
          subst r
          have HR := Lib.hid (show strB L ++ (⟨#[59]⟩ : ByteArray) ++ strB (cellTx (f k)) = strB (bTx S f (k + 1)) by
            rw [HS.out]; unfold sepAt; rw [if_neg (by omega), if_pos hm.symm, show (⟨#[59]⟩ : ByteArray) = strB [59] from rfl]; simp only [strB_app])
          clear hm
          go_wp2_with fail
          refine (spec_cellTx (f k) _).mono ?_
          rintro e w2 ⟨rfl, hb3⟩
          have hx2 := hx1.below hb3 hx1.1
          have hb4 := hb2.trans (hb3.mono (by omega))
          clear xz xc0 xc1 x0 x1 x2 hx1 hb2 hb3
          go_wp2
          go_roundw
          case rel => exact ⟨k + 1, by omega, by go_num, by rw [← HR.out], hx2, hb4⟩
          case measure => simp [intOf]; omega
        · have r1 : ((m : Int) == 0) = false := beq_eq_false_iff_ne.2 (by omega)
          have r2 : (m == 0) = false := beq_eq_false_iff_ne.2 (by omega)
          have HR := Lib.hid (show strB L ++ (⟨#[44]⟩ : ByteArray) ++ strB (cellTx (f k)) = strB (bTx S f (k + 1)) by
            rw [HS.out]; unfold sepAt; rw [if_neg (by omega), if_neg (by omega), show (⟨#[44]⟩ : ByteArray) = strB [44] from rfl]; simp only [strB_app])
          clear hm
          go_wp2_with fail
          refine (spec_cellTx (f k) _).mono ?_
          rintro e w2 ⟨rfl, hb3⟩
          have hx2 := hx1.below hb3 hx1.1
          have hb4 := hb2.trans (hb3.mono (by omega))
          clear xz xc0 xc1 x0 x1 x2 hx1 hb2 hb3
          go_wp2
          go_roundw
          case rel => exact ⟨k + 1, by omega, by go_num, by rw [← HR.out], hx2, hb4⟩
          case measure => simp [intOf]; omega
    · have k3 : ¬ (k : Int) < (n : Int) := by omega
      have HF := Lib.hid (show blockTx (S : Int) n f = bTx S f k by rw [HE.out, show k = n by omega])
      go_wp2
      go_ret
      exact ⟨by rw [HF.out]; rfl, hb⟩
end Go.Proofs.YtheafiaemcmjaaaDoor
