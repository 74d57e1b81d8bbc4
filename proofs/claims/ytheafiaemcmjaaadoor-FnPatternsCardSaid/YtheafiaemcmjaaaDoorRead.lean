/- Contracts of ReadCell: the program's and the reference's. -/
import Derived.Test.YtheafiaemcmjaaaDoorTxC
import Derived.Test.YtheafiaemcmjaaaDoorPureRd
import Derived.StillTailTactics
namespace Go.Proofs.YtheafiaemcmjaaaDoor
open Go.ChangeShapes Go.WideShapes Go.ChangeAt Go.RowKit
theorem strB_tl (l : List UInt8) : (strB l).toList = l := by rw [ByteArray.toList_eq, strB_list]
theorem strB_beq (a b : List UInt8) : ((strB a).toList == (strB b).toList) = (a == b) := by rw [strB_tl, strB_tl]
set_option maxRecDepth 100000 in
set_option maxHeartbeats 4000000 in
theorem spec_readCell (l : List UInt8) (w : World) : Calls Tryd.prog 9 #[.string (strB l)] w fun e w' => e = .returned (.tuple #[.agg #[.int .i64 (readC l 0), .int .i64 (readC l 1), .int .i64 (readC l 2)], .bool (readOk l)]) ∧ Below w.heap.size w w' := by
  go_enter Tryd.func9, Tryd.ntmps9
  go_wp2_with fail
  go_loopw [4] (fun i wr => ∃ k : Nat, k ≤ 108 ∧ i = .int .i64 k ∧ Hid (∀ j, j < k → isTx l j = false) ∧ Below w.heap.size w wr ∧ w.heap.size < wr.heap.size ∧ wr.frozen? ⟨w.heap.size, 0, none⟩ = false ∧ wr.frozen? ⟨w.heap.size, 1, none⟩ = false ∧ wr.frozen? ⟨w.heap.size, 2, none⟩ = false ∧ wr.cell? ⟨w.heap.size, 0, none⟩ = some (.int .i64 0) ∧ wr.cell? ⟨w.heap.size, 1, none⟩ = some (.int .i64 0) ∧ wr.cell? ⟨w.heap.size, 2, none⟩ = some (.int .i64 0)) (fun i _ => 108 - (intOf i).toNat)
  case atStart => exact ⟨0, by omega, rfl, Lib.hid (fun j hj => absurd hj (by omega)), (Below.refl _ _).alloc (Nat.le_refl _) _, by simp, by go_simp, by go_simp, by go_simp, by go_simp, by go_simp, by go_simp⟩
  case round =>
    obtain ⟨k, hk, rfl, hC, hb, hz, z0, z1, z2, y0, y1, y2⟩ := hrel
    by_cases hlt : k < 108
    · have k0 : (0 : Int) ≤ (k : Int) := by omega
      have k3 : (k : Int) < 108 := by omega
      have q0 : (k : Int) / 36 = cellAt k 0 := by simp only [cellAt]; omega
      have q1 : (k : Int) / 6 % 6 = cellAt k 1 := by simp only [cellAt]; omega
      have q2 : (k : Int) % 6 = cellAt k 2 := by simp only [cellAt]; omega
      go_wp2_with fail
      refine (spec_cellOk (cellAt k) _).mono ?_
      rintro e w1 ⟨rfl, hb1⟩
      have hb2 := (hb.alloc hb.size (.cells #[.int .i64 (cellAt k 0), .int .i64 (cellAt k 1), .int .i64 (cellAt k 2)] 23)).trans (hb1.mono (by have := hb.size; simp; omega))
      obtain ⟨hcc, hfc⟩ := bcell hb1
      have s1 : wr.heap.size < w1.heap.size := by have := hb1.size; simp at this; omega
      have x0 := (hcc wr.heap.size 0 (by simp)).trans (by go_simp : _ = some (.int .i64 (cellAt k 0)))
      have x1 := (hcc wr.heap.size 1 (by simp)).trans (by go_simp : _ = some (.int .i64 (cellAt k 1)))
      have x2 := (hcc wr.heap.size 2 (by simp)).trans (by go_simp : _ = some (.int .i64 (cellAt k 2)))
      have ne1 : w.heap.size ≠ wr.heap.size := by omega
      have y0 := (hcc w.heap.size 0 (by simp; omega)).trans (by go_simp : _ = some (.int .i64 0))
      have y1 := (hcc w.heap.size 1 (by simp; omega)).trans (by go_simp : _ = some (.int .i64 0))
      have y2 := (hcc w.heap.size 2 (by simp; omega)).trans (by go_simp : _ = some (.int .i64 0))
      have z0 := (hfc w.heap.size 0 (by simp; omega)).trans (by go_simp : _ = false)
      have z1 := (hfc w.heap.size 1 (by simp; omega)).trans (by go_simp : _ = false)
      have z2 := (hfc w.heap.size 2 (by simp; omega)).trans (by go_simp : _ = false)
      have hz2 : w.heap.size < w1.heap.size := by omega
      clear hcc hfc hb1 hb q0 q1 q2
      rcases (Bool.eq_false_or_eq_true (cellOk (cellAt k))).symm with hO | hO
      · have HC := Lib.hid (show ∀ j, j < k + 1 → isTx l j = false by
          intro j hj
          rcases (by omega : j < k ∨ j = k) with q | rfl
          · exact hC.out j q
          · unfold isTx; rw [hO]; rfl)
        rw [hO]
        go_wp2
        go_roundw
        case rel => exact ⟨k + 1, by omega, by go_num, HC, hb2, hz2, z0, z1, z2, y0, y1, y2⟩
        case measure => simp [intOf]; omega
      · have HO := Lib.hid hO
        rw [hO]
        clear hO
        go_wp2_with fail
        refine (spec_cellTx (cellAt k) _).mono ?_
        rintro e w2 ⟨rfl, hb3⟩
        obtain ⟨hcc, hfc⟩ := bcell hb3
        have s2 : wr.heap.size < w2.heap.size := by have := hb3.size; omega
        have x0 := (hcc wr.heap.size 0 s1).trans x0
        have x1 := (hcc wr.heap.size 1 s1).trans x1
        have x2 := (hcc wr.heap.size 2 s1).trans x2
        have y0 := (hcc w.heap.size 0 hz2).trans y0
        have y1 := (hcc w.heap.size 1 hz2).trans y1
        have y2 := (hcc w.heap.size 2 hz2).trans y2
        have z0 := (hfc w.heap.size 0 hz2).trans z0
        have z1 := (hfc w.heap.size 1 hz2).trans z1
        have z2 := (hfc w.heap.size 2 hz2).trans z2
        have hb4 := hb2.trans (hb3.mono hb2.size)
        have hz3 : w.heap.size < w2.heap.size := by omega
        clear hcc hfc hb3 hb2
        rcases (Bool.eq_false_or_eq_true (cellTx (cellAt k) == l)).symm with hE | hE
        · have HC := Lib.hid (show ∀ j, j < k + 1 → isTx l j = false by
            intro j hj
            rcases (by omega : j < k ∨ j = k) with q | rfl
            · exact hC.out j q
            · unfold isTx; rw [hE, Bool.and_false])
          have hT := strB_beq (cellTx (cellAt k)) l
          rw [hE] at hT
          clear hE
          go_wp2
          go_roundw
          case rel => exact ⟨k + 1, by omega, by go_num, HC, hb4, hz3, z0, z1, z2, y0, y1, y2⟩
          case measure => simp [intOf]; omega
        · obtain ⟨r1, r2⟩ := read_hit (l := l) hlt HO.out (by simpa using hE) hC.out
          have R1 := Lib.hid r1
          have R2 := Lib.hid r2
          have hT := strB_beq (cellTx (cellAt k)) l
          rw [hE] at hT
          have hb5 := ((hb4.setCell (p := ⟨w.heap.size, 0, none⟩) (Nat.le_refl _) (.int .i64 (cellAt k 0))).setCell (p := ⟨w.heap.size, 1, none⟩) (Nat.le_refl _) (.int .i64 (cellAt k 1))).setCell (p := ⟨w.heap.size, 2, none⟩) (Nat.le_refl _) (.int .i64 (cellAt k 2))
          clear hE r1 r2 hb4
          go_wp2
          exact bodyPost_ret (v := .tuple #[.agg #[.int .i64 (cellAt k 0), .int .i64 (cellAt k 1), .int .i64 (cellAt k 2)], .bool true]) (by simp [results, Tryd.results9, go_sem, y0, y1, y2, z0, z1, z2]) rfl ⟨by rw [R1.out, R2.out], hb5⟩
    · obtain ⟨r1, r2⟩ := read_miss (l := l) fun j hj => hC.out j (by omega)
      have R1 := Lib.hid r1
      have R2 := Lib.hid r2
      have hb5 := ((hb.setCell (p := ⟨w.heap.size, 0, none⟩) (Nat.le_refl _) (.int .i64 0)).setCell (p := ⟨w.heap.size, 1, none⟩) (Nat.le_refl _) (.int .i64 0)).setCell (p := ⟨w.heap.size, 2, none⟩) (Nat.le_refl _) (.int .i64 0)
      have k3 : ¬ (k : Int) < 108 := by omega
      clear r1 r2 hb
      go_wp2
      exact bodyPost_ret (v := .tuple #[.agg #[.int .i64 0, .int .i64 0, .int .i64 0], .bool false]) (by simp [results, Tryd.results9, go_sem, y0, y1, y2, z0, z1, z2]) rfl ⟨by rw [R1.out, R2.out]; rfl, hb5⟩
set_option maxRecDepth 100000 in
set_option maxHeartbeats 4000000 in
theorem impl_readCell_o (l : List UInt8) (w : World) (h1 : l.length ≠ 1) (h3 : l.length ≠ 3) : Calls Tryd.prog 10 #[.string (strB l)] w fun e w' => e = .returned (.tuple #[.agg #[.int .i64 (readC l 0), .int .i64 (readC l 1), .int .i64 (readC l 2)], .bool (readOk l)]) ∧ Below w.heap.size w w' := by
  obtain ⟨r1, r2⟩ := read_long h1 h3
  have R1 := Lib.hid r1
  have R2 := Lib.hid r2
  obtain ⟨n, hn⟩ : ∃ n, n = l.length := ⟨_, rfl⟩
  have hs : (strB l).size = n := by rw [strB_size, hn]
  rw [← hn] at h1 h3
  have t1 : ((n : Int) == 1) = false := by simp; omega
  have t3 : ((n : Int) == 3) = false := by simp; omega
  clear r1 r2 hn h1 h3
  go_enter Tryd.func10, Tryd.ntmps10
  go_wp2
  exact bodyPost_ret (v := .tuple #[.agg #[.int .i64 0, .int .i64 0, .int .i64 0], .bool false]) (by simp [results, Tryd.results10, go_sem]) rfl ⟨by rw [R1.out, R2.out]; rfl, ((Below.refl _ _).alloc (Nat.le_refl _) _).alloc (by simp) _⟩
set_option maxRecDepth 100000 in
set_option maxHeartbeats 4000000 in
theorem impl_readCell_1 (c : UInt8) (w : World) : Calls Tryd.prog 10 #[.string ⟨#[c]⟩] w fun e w' => e = .returned (.tuple #[.agg #[.int .i64 (readC [c] 0), .int .i64 (readC [c] 1), .int .i64 (readC [c] 2)], .bool (readOk [c])]) ∧ Below w.heap.size w w' := by
  have hcb : (c.toNat : Int) ≤ 255 := by have := c.toNat_lt; omega
  have hc0 : (0 : Int) ≤ c.toNat := by omega
  have hq : (((⟨#[c]⟩ : ByteArray)[0]'(by decide : 0 < 1)).toNat : Int) = c.toNat := rfl
  have hT := strB_beq (cellTx (cand1 c)) [c]
  go_enter Tryd.func10, Tryd.ntmps10
  go_wp2_with fail
  refine (impl_cellTx (cand1 c) _).mono ?_
  rintro e w1 ⟨rfl, hb1⟩
  obtain ⟨hcc, hfc⟩ := bcell hb1
  have x0 := (hcc (w.heap.size + 1) 0 (by simp)).trans (by go_simp : _ = some (.int .i64 0))
  have x1 := (hcc (w.heap.size + 1) 1 (by simp)).trans (by go_simp : _ = some (.int .i64 ((c.toNat : Int) - 48)))
  have x2 := (hcc (w.heap.size + 1) 2 (by simp)).trans (by go_simp : _ = some (.int .i64 ((c.toNat : Int) - 48)))
  have y0 := (hcc w.heap.size 0 (by simp; omega)).trans (by go_simp : _ = some (.int .i64 0))
  have y1 := (hcc w.heap.size 1 (by simp; omega)).trans (by go_simp : _ = some (.int .i64 0))
  have y2 := (hcc w.heap.size 2 (by simp; omega)).trans (by go_simp : _ = some (.int .i64 0))
  have z0 := (hfc w.heap.size 0 (by simp; omega)).trans (by go_simp : _ = false)
  have z1 := (hfc w.heap.size 1 (by simp; omega)).trans (by go_simp : _ = false)
  have z2 := (hfc w.heap.size 2 (by simp; omega)).trans (by go_simp : _ = false)
  have hb2 := (((Below.refl w.heap.size w).alloc (Nat.le_refl _) (.cells #[.int .i64 0, .int .i64 0, .int .i64 0] 23)).alloc (by simp) (.cells #[.int .i64 0, .int .i64 ((c.toNat : Int) - 48), .int .i64 ((c.toNat : Int) - 48)] 23)).trans (hb1.mono (by simp; omega))
  clear hcc hfc hb1
  rcases read_1 (c := c) with ⟨_, r1, r2, r3, r4, r5⟩ | ⟨r1, r2, r3⟩
  · have R2 := Lib.hid r2
    have R3 := Lib.hid r3
    have R4 := Lib.hid r4
    have R5 := Lib.hid r5
    rw [r1] at hT
    have hT2 : ((strB (cellTx (cand1 c))).toList == (⟨#[c]⟩ : ByteArray).toList) = true := by rw [r1]; exact hT.trans (by simp)
    have hb5 := ((hb2.setCell (p := ⟨w.heap.size, 0, none⟩) (Nat.le_refl _) (.int .i64 0)).setCell (p := ⟨w.heap.size, 1, none⟩) (Nat.le_refl _) (.int .i64 ((c.toNat : Int) - 48))).setCell (p := ⟨w.heap.size, 2, none⟩) (Nat.le_refl _) (.int .i64 ((c.toNat : Int) - 48))
    have hT3 : ((strB (cellTx (cand1 c))).toList == [c]) = true := by rw [strB_tl, r1]; simp
    have hT4 : ((strB (cellTx (cand1 c))).toList != [c]) = false := by rw [strB_tl, r1]; simp
    clear r1 r2 r3 r4 r5 hT
    go_wp2
    exact bodyPost_ret (v := .tuple #[.agg #[.int .i64 0, .int .i64 ((c.toNat : Int) - 48), .int .i64 ((c.toNat : Int) - 48)], .bool true]) (by simp [results, Tryd.results10, go_sem, y0, y1, y2, z0, z1, z2]) rfl ⟨by rw [R2.out, R3.out, R4.out, R5.out]; rfl, hb5⟩
  · have R2 := Lib.hid r2
    have R3 := Lib.hid r3
    have hT2 : ((strB (cellTx (cand1 c))).toList == (⟨#[c]⟩ : ByteArray).toList) = false := hT.trans (by rw [beq_eq_false_iff_ne]; exact r1)
    have hb5 := ((hb2.setCell (p := ⟨w.heap.size, 0, none⟩) (Nat.le_refl _) (.int .i64 0)).setCell (p := ⟨w.heap.size, 1, none⟩) (Nat.le_refl _) (.int .i64 0)).setCell (p := ⟨w.heap.size, 2, none⟩) (Nat.le_refl _) (.int .i64 0)
    have hT3 : ((strB (cellTx (cand1 c))).toList == [c]) = false := by rw [strB_tl, beq_eq_false_iff_ne]; exact r1
    have hT4 : ((strB (cellTx (cand1 c))).toList != [c]) = true := by rw [strB_tl, bne_iff_ne]; exact r1
    clear r1 r2 r3 hT
    go_wp2
    exact bodyPost_ret (v := .tuple #[.agg #[.int .i64 0, .int .i64 0, .int .i64 0], .bool false]) (by simp [results, Tryd.results10, go_sem, y0, y1, y2, z0, z1, z2]) rfl ⟨by rw [R2.out, R3.out]; rfl, hb5⟩
set_option maxRecDepth 100000 in
set_option maxHeartbeats 4000000 in
theorem impl_readCell_3 (c d e : UInt8) (w : World) : Calls Tryd.prog 10 #[.string ⟨#[c, d, e]⟩] w fun r w' => r = .returned (.tuple #[.agg #[.int .i64 (readC [c, d, e] 0), .int .i64 (readC [c, d, e] 1), .int .i64 (readC [c, d, e] 2)], .bool (readOk [c, d, e])]) ∧ Below w.heap.size w w' := by
  have hcb : (c.toNat : Int) ≤ 255 := by have := c.toNat_lt; omega
  have hc0 : (0 : Int) ≤ c.toNat := by omega
  have heb : (e.toNat : Int) ≤ 255 := by have := e.toNat_lt; omega
  have he0 : (0 : Int) ≤ e.toNat := by omega
  have hq : (((⟨#[c, d, e]⟩ : ByteArray)[0]'(by decide : 0 < 3)).toNat : Int) = c.toNat := rfl
  have hq1 : (((⟨#[c, d, e]⟩ : ByteArray)[1]'(by decide : 1 < 3)).toNat : Int) = d.toNat := rfl
  have hq2 : (((⟨#[c, d, e]⟩ : ByteArray)[2]'(by decide : 2 < 3)).toNat : Int) = e.toNat := rfl
  have hwc : IntKind.i64.wrap ((c.toNat : Int) - 48) = (c.toNat : Int) - 48 := IntWalk.i64_in _ (by omega)
  have hwe : IntKind.i64.wrap ((e.toNat : Int) - 48) = (e.toNat : Int) - 48 := IntWalk.i64_in _ (by omega)
  have hwc2 : IntKind.i64.wrap (c.toNat : Int) = c.toNat := IntWalk.i64_in _ (by omega)
  have hwe2 : IntKind.i64.wrap (e.toNat : Int) = e.toNat := IntWalk.i64_in _ (by omega)
  have hT := strB_tl (cellTx (cand3 c d e))
  by_cases hd : d = 92
  · have hd1 : ((d.toNat : Int) == 92) = true := by rw [hd]; rfl
    have hsp : cand3 c d e 0 = 2 := by show (if d = 92 then (2 : Int) else 1) = 2; rw [if_pos hd]
    clear hd
    have hcall := impl_cellTx (cand3 c d e)
    rw [hsp] at hcall
    have HCALL := Lib.hid hcall
    have HSP := Lib.hid hsp
    clear hcall hsp
    go_enter Tryd.func10, Tryd.ntmps10
    go_wp2_with fail
    go_still_tail 9, (by kernel_rfl)
    change wpList _ _ _ _ _ ((w.alloc (.cells #[.int .i64 0, .int .i64 0, .int .i64 0] 23)).alloc (.cells #[.int .i64 0, .int .i64 0, .int .i64 0] 23)).drew
    go_wp2_with fail
    refine (HCALL.out _).mono ?_
    rintro r w1 ⟨rfl, hb1⟩
    replace hb1 : Below ((w.alloc (.cells #[.int .i64 0, .int .i64 0, .int .i64 0] 23)).alloc (.cells #[.int .i64 2, .int .i64 ((c.toNat : Int) - 48), .int .i64 ((e.toNat : Int) - 48)] 23)).heap.size ((w.alloc (.cells #[.int .i64 0, .int .i64 0, .int .i64 0] 23)).alloc (.cells #[.int .i64 2, .int .i64 ((c.toNat : Int) - 48), .int .i64 ((e.toNat : Int) - 48)] 23)) w1 := below_drew hb1
    obtain ⟨hcc, hfc⟩ := bcell hb1
    have x0 := (hcc (w.heap.size + 1) 0 (by simp)).trans (by go_simp : _ = some (.int .i64 2))
    have x1 := (hcc (w.heap.size + 1) 1 (by simp)).trans (by go_simp : _ = some (.int .i64 ((c.toNat : Int) - 48)))
    have x2 := (hcc (w.heap.size + 1) 2 (by simp)).trans (by go_simp : _ = some (.int .i64 ((e.toNat : Int) - 48)))
    have y0 := (hcc w.heap.size 0 (by simp; omega)).trans (by go_simp : _ = some (.int .i64 0))
    have y1 := (hcc w.heap.size 1 (by simp; omega)).trans (by go_simp : _ = some (.int .i64 0))
    have y2 := (hcc w.heap.size 2 (by simp; omega)).trans (by go_simp : _ = some (.int .i64 0))
    have z0 := (hfc w.heap.size 0 (by simp; omega)).trans (by go_simp : _ = false)
    have z1 := (hfc w.heap.size 1 (by simp; omega)).trans (by go_simp : _ = false)
    have z2 := (hfc w.heap.size 2 (by simp; omega)).trans (by go_simp : _ = false)
    have hb2 := (((Below.refl w.heap.size w).alloc (Nat.le_refl _) (.cells #[.int .i64 0, .int .i64 0, .int .i64 0] 23)).alloc (by simp) (.cells #[.int .i64 2, .int .i64 ((c.toNat : Int) - 48), .int .i64 ((e.toNat : Int) - 48)] 23)).trans (hb1.mono (by simp; omega))
    clear hcc hfc hb1 hT
    rcases read_3 (c := c) (d := d) (e := e) with ⟨_, r1, r2, r3, r4, r5⟩ | ⟨r1, r2, r3⟩
    · have R2 := Lib.hid r2
      have R3 := Lib.hid r3
      have R4 := Lib.hid r4
      have R5 := Lib.hid r5
      have hb5 := ((hb2.setCell (p := ⟨w.heap.size, 0, none⟩) (Nat.le_refl _) (.int .i64 2)).setCell (p := ⟨w.heap.size, 1, none⟩) (Nat.le_refl _) (.int .i64 ((c.toNat : Int) - 48))).setCell (p := ⟨w.heap.size, 2, none⟩) (Nat.le_refl _) (.int .i64 ((e.toNat : Int) - 48))
      have hT3 : ((strB (cellTx (cand3 c d e))).toList == [c, d, e]) = true := by rw [strB_tl, r1]; simp
      have hT4 : ((strB (cellTx (cand3 c d e))).toList != [c, d, e]) = false := by rw [strB_tl, r1]; simp
      clear r1 r2 r3 r4 r5
      go_wp2
      exact bodyPost_ret (v := .tuple #[.agg #[.int .i64 2, .int .i64 ((c.toNat : Int) - 48), .int .i64 ((e.toNat : Int) - 48)], .bool true]) (by simp [results, Tryd.results10, go_sem, y0, y1, y2, z0, z1, z2]) rfl ⟨by rw [R2.out, R3.out, R4.out, R5.out, HSP.out]; rfl, hb5⟩
    · have R2 := Lib.hid r2
      have R3 := Lib.hid r3
      have hb5 := ((hb2.setCell (p := ⟨w.heap.size, 0, none⟩) (Nat.le_refl _) (.int .i64 0)).setCell (p := ⟨w.heap.size, 1, none⟩) (Nat.le_refl _) (.int .i64 0)).setCell (p := ⟨w.heap.size, 2, none⟩) (Nat.le_refl _) (.int .i64 0)
      have hT3 : ((strB (cellTx (cand3 c d e))).toList == [c, d, e]) = false := by rw [strB_tl, beq_eq_false_iff_ne]; exact r1
      have hT4 : ((strB (cellTx (cand3 c d e))).toList != [c, d, e]) = true := by rw [strB_tl, bne_iff_ne]; exact r1
      clear r1 r2 r3
      go_wp2
      exact bodyPost_ret (v := .tuple #[.agg #[.int .i64 0, .int .i64 0, .int .i64 0], .bool false]) (by simp [results, Tryd.results10, go_sem, y0, y1, y2, z0, z1, z2]) rfl ⟨by rw [R2.out, R3.out]; rfl, hb5⟩
  · have hd1 : ((d.toNat : Int) == 92) = false := by rw [beq_eq_false_iff_ne]; intro h; exact hd (UInt8.toNat.inj (by simpa using Int.ofNat.inj h))
    have hsp : cand3 c d e 0 = 1 := by show (if d = 92 then (2 : Int) else 1) = 1; rw [if_neg hd]
    clear hd
    have hcall := impl_cellTx (cand3 c d e)
    rw [hsp] at hcall
    have HCALL := Lib.hid hcall
    have HSP := Lib.hid hsp
    clear hcall hsp
    go_enter Tryd.func10, Tryd.ntmps10
    go_wp2_with fail
    go_still_tail 9, (by kernel_rfl)
    change wpList _ _ _ _ _ ((w.alloc (.cells #[.int .i64 0, .int .i64 0, .int .i64 0] 23)).alloc (.cells #[.int .i64 0, .int .i64 0, .int .i64 0] 23)).drew
    go_wp2_with fail
    refine (HCALL.out _).mono ?_
    rintro r w1 ⟨rfl, hb1⟩
    replace hb1 : Below ((w.alloc (.cells #[.int .i64 0, .int .i64 0, .int .i64 0] 23)).alloc (.cells #[.int .i64 1, .int .i64 ((c.toNat : Int) - 48), .int .i64 ((e.toNat : Int) - 48)] 23)).heap.size ((w.alloc (.cells #[.int .i64 0, .int .i64 0, .int .i64 0] 23)).alloc (.cells #[.int .i64 1, .int .i64 ((c.toNat : Int) - 48), .int .i64 ((e.toNat : Int) - 48)] 23)) w1 := below_drew hb1
    obtain ⟨hcc, hfc⟩ := bcell hb1
    have x0 := (hcc (w.heap.size + 1) 0 (by simp)).trans (by go_simp : _ = some (.int .i64 1))
    have x1 := (hcc (w.heap.size + 1) 1 (by simp)).trans (by go_simp : _ = some (.int .i64 ((c.toNat : Int) - 48)))
    have x2 := (hcc (w.heap.size + 1) 2 (by simp)).trans (by go_simp : _ = some (.int .i64 ((e.toNat : Int) - 48)))
    have y0 := (hcc w.heap.size 0 (by simp; omega)).trans (by go_simp : _ = some (.int .i64 0))
    have y1 := (hcc w.heap.size 1 (by simp; omega)).trans (by go_simp : _ = some (.int .i64 0))
    have y2 := (hcc w.heap.size 2 (by simp; omega)).trans (by go_simp : _ = some (.int .i64 0))
    have z0 := (hfc w.heap.size 0 (by simp; omega)).trans (by go_simp : _ = false)
    have z1 := (hfc w.heap.size 1 (by simp; omega)).trans (by go_simp : _ = false)
    have z2 := (hfc w.heap.size 2 (by simp; omega)).trans (by go_simp : _ = false)
    have hb2 := (((Below.refl w.heap.size w).alloc (Nat.le_refl _) (.cells #[.int .i64 0, .int .i64 0, .int .i64 0] 23)).alloc (by simp) (.cells #[.int .i64 1, .int .i64 ((c.toNat : Int) - 48), .int .i64 ((e.toNat : Int) - 48)] 23)).trans (hb1.mono (by simp; omega))
    clear hcc hfc hb1 hT
    rcases read_3 (c := c) (d := d) (e := e) with ⟨_, r1, r2, r3, r4, r5⟩ | ⟨r1, r2, r3⟩
    · have R2 := Lib.hid r2
      have R3 := Lib.hid r3
      have R4 := Lib.hid r4
      have R5 := Lib.hid r5
      have hb5 := ((hb2.setCell (p := ⟨w.heap.size, 0, none⟩) (Nat.le_refl _) (.int .i64 1)).setCell (p := ⟨w.heap.size, 1, none⟩) (Nat.le_refl _) (.int .i64 ((c.toNat : Int) - 48))).setCell (p := ⟨w.heap.size, 2, none⟩) (Nat.le_refl _) (.int .i64 ((e.toNat : Int) - 48))
      have hT3 : ((strB (cellTx (cand3 c d e))).toList == [c, d, e]) = true := by rw [strB_tl, r1]; simp
      have hT4 : ((strB (cellTx (cand3 c d e))).toList != [c, d, e]) = false := by rw [strB_tl, r1]; simp
      clear r1 r2 r3 r4 r5
      go_wp2
      exact bodyPost_ret (v := .tuple #[.agg #[.int .i64 1, .int .i64 ((c.toNat : Int) - 48), .int .i64 ((e.toNat : Int) - 48)], .bool true]) (by simp [results, Tryd.results10, go_sem, y0, y1, y2, z0, z1, z2]) rfl ⟨by rw [R2.out, R3.out, R4.out, R5.out, HSP.out]; rfl, hb5⟩
    · have R2 := Lib.hid r2
      have R3 := Lib.hid r3
      have hb5 := ((hb2.setCell (p := ⟨w.heap.size, 0, none⟩) (Nat.le_refl _) (.int .i64 0)).setCell (p := ⟨w.heap.size, 1, none⟩) (Nat.le_refl _) (.int .i64 0)).setCell (p := ⟨w.heap.size, 2, none⟩) (Nat.le_refl _) (.int .i64 0)
      have hT3 : ((strB (cellTx (cand3 c d e))).toList == [c, d, e]) = false := by rw [strB_tl, beq_eq_false_iff_ne]; exact r1
      have hT4 : ((strB (cellTx (cand3 c d e))).toList != [c, d, e]) = true := by rw [strB_tl, bne_iff_ne]; exact r1
      clear r1 r2 r3
      go_wp2
      exact bodyPost_ret (v := .tuple #[.agg #[.int .i64 0, .int .i64 0, .int .i64 0], .bool false]) (by simp [results, Tryd.results10, go_sem, y0, y1, y2, z0, z1, z2]) rfl ⟨by rw [R2.out, R3.out]; rfl, hb5⟩
theorem impl_readCell (l : List UInt8) (w : World) : Calls Tryd.prog 10 #[.string (strB l)] w fun e w' => e = .returned (.tuple #[.agg #[.int .i64 (readC l 0), .int .i64 (readC l 1), .int .i64 (readC l 2)], .bool (readOk l)]) ∧ Below w.heap.size w w' := by
  match l with
  | [c] => exact impl_readCell_1 c w
  | [c, d, e] => exact impl_readCell_3 c d e w
  | [] => exact impl_readCell_o _ w (by simp) (by simp)
  | [_, _] => exact impl_readCell_o _ w (by simp) (by simp)
  | _ :: _ :: _ :: _ :: _ => exact impl_readCell_o _ w (by simp) (by simp)
end Go.Proofs.YtheafiaemcmjaaaDoor
