/- Contract of the reference's ReadBlock. -/
import Derived.Test.YtheafiaemcmjaaaDoorBTx
import Derived.Test.YtheafiaemcmjaaaDoorRead
import Derived.Test.YtheafiaemcmjaaaDoorPureRb
import Derived.Test.YtheafiaemcmjaaaDoorPureRq
import Derived.Test.YtheafiaemcmjaaaDoorAppS
import Derived.Test.YtheafiaemcmjaaaDoorBlock
import Derived.Deep.RegionLaw
import Derived.Deep.RegionHeld3
import Derived.Deep.AppendLies
import Derived.Outline
import Derived.Deep.DeepCutAuto
namespace Go.Proofs.YtheafiaemcmjaaaDoor
open Go.ChangeShapes Go.WideShapes Go.ChangeAt Go.RowKit
theorem info_cellR : (Tryd.prog.info? 23).map (fun i => (i.zero, i.size, i.bytes)) = some (some (.agg #[.int .i64 0, .int .i64 0, .int .i64 0]), 3, 24) := by kernel_rfl
theorem row_farR {w w0 w' : World} {base m e n g : Nat} {v : Value} {f : Nat → Nat → Int} {o : Obj} (hg : w.grownBy w' v.ownBlock) (ho : OwnS m e w0 base v n f) (h : w.heap[g]? = some o) (hlt : g < base := by omega) : w'.heap[g]? = some o :=
  (hg.block g (blk_lt h) (fun e => by have := (World.ownsRow.lt ho g e.symm).1; omega)).trans h
theorem strB_atR {l : List UInt8} {i : Nat} (h : i < (strB l).size) : (((strB l)[i]'h).toNat : Int) = byteI l i := by
  have h2 : i < l.length := by rw [← strB_size]; exact h
  have e : (strB l)[i]'h = l[i] := by
    show (l.toArray)[i]'(by rw [List.size_toArray]; exact h2) = l[i]
    exact List.getElem_toArray _
  rw [e]
  unfold byteI
  simp [List.getD, h2]
theorem strB_sub (l : List UInt8) (b k : Nat) : (strB l).extract b k = strB ((l.take k).drop b) := by
  apply ByteArray.ext
  rw [ByteArray.data_extract]
  apply Array.ext'
  simp [strB, List.extract_eq_take_drop, List.drop_take]
theorem byte_eq (l : List UInt8) (k m : Nat) (hm : m < 256) : byteI l k = m ↔ l.getD k 0 = UInt8.ofNat m := by
  unfold byteI
  constructor
  · intro h
    apply UInt8.toNat.inj
    rw [UInt8.toNat_ofNat']
    omega
  · intro h
    rw [h, UInt8.toNat_ofNat']
    omega
theorem sep_no {l : List UInt8} {k : Nat} (h1 : byteI l k ≠ 44) (h2 : byteI l k ≠ 59) : isSep (l.getD k 0) = false := by
  unfold isSep
  have a : l.getD k 0 ≠ 44 := fun e => h1 ((byte_eq l k 44 (by omega)).2 e)
  have b : l.getD k 0 ≠ 59 := fun e => h2 ((byte_eq l k 59 (by omega)).2 e)
  rw [beq_eq_false_iff_ne.2 a, beq_eq_false_iff_ne.2 b]
  rfl
theorem sep_44 {l : List UInt8} {k : Nat} (h1 : byteI l k = 44) : l.getD k 0 = 44 := (byte_eq l k 44 (by omega)).1 h1
theorem sep_59 {l : List UInt8} {k : Nat} (h1 : byteI l k = 59) : l.getD k 0 = 59 := (byte_eq l k 59 (by omega)).1 h1
theorem not_59 {l : List UInt8} {k : Nat} (h1 : byteI l k ≠ 59) : l.getD k 0 ≠ 59 := fun e => h1 ((byte_eq l k 59 (by omega)).2 e)
def tri (a b c : Int) : Nat → Int
  | 0 => a
  | 1 => b
  | _ => c
def RbPost (l : List UInt8) (w : World) (e : Ending) (w' : World) : Prop := ∃ A c, e = .returned (.tuple #[.agg #[.int .i64 (rbS l), .slice A (rbN l) c], .bool (readB l)]) ∧ OwnS 3 23 w' w.heap.size (.slice A (rbN l) c) (rbN l) (bF l) ∧ Below w.heap.size w w'
theorem RbPost.no {l : List UInt8} {w w' : World} (h : readB l = false) (hb : Below w.heap.size w w') : RbPost l w (.returned (.tuple #[.agg #[.int .i64 0, .slice none 0 0], .bool false])) w' := by
  have e0 : rbS l = 0 := by unfold rbS; rw [h]; rfl
  have e2 : rbN l = 0 := by unfold rbN; rw [h]; rfl
  refine ⟨none, 0, ?_, ?_, hb⟩
  · rw [e0, e2, h]
  · rw [e2]; exact ownS_nil _ _ _ _ _
theorem RbPost.yes {l : List UInt8} {w w' : World} {A : Option Addr} {n c : Nat} {s : Int} (h : readB l = true) (hs : s = (bS l : Nat)) (hn : n = bN l) (ho : OwnS 3 23 w' w.heap.size (.slice A n c) n (bF l)) (hb : Below w.heap.size w w') : RbPost l w (.returned (.tuple #[.agg #[.int .i64 s, .slice A n c], .bool true])) w' := by
  have e0 : rbS l = (bS l : Nat) := by unfold rbS; rw [h]; rfl
  have e2 : rbN l = bN l := by unfold rbN; rw [h]; rfl
  subst hn
  subst hs
  refine ⟨A, c, ?_, ?_, hb⟩
  · rw [e0, e2, h]
  · rw [e2]; exact ho
theorem rb_zero (l : List UInt8) : blockOk 1 0 (bF l) = false := by unfold blockOk; rfl
set_option maxRecDepth 100000 in
set_option maxHeartbeats 8000000 in
theorem spec_readB (l : List UInt8) (w : World) (hl : l.length ≤ 1048576) : Calls Tryd.prog 26 #[.string (strB l)] w (RbPost l w) := by
  obtain ⟨n, hn⟩ : ∃ n, n = l.length := ⟨_, rfl⟩
  have hs : (strB l).size = n := by rw [strB_size, hn]
  have HN := Lib.hid hn
  rw [← hn] at hl
  clear hn
  have HWF : Hid (∀ {c : Nat}, ∀ a, a < c → ∀ j, j < 3 → (Lit.int .i64 (bF l a j)).wf = true) := Lib.hid fun a _ j _ => bF_wf l a j
  obtain ⟨b, hb⟩ : ∃ b, b = w.heap.size := ⟨_, rfl⟩
  obtain ⟨w2, hw2⟩ : ∃ w2, w2 = (w.alloc (.cells #[.int .i64 0, .slice none 0 0] 46)).alloc (.cells #[.int .i64 0, .slice none 0 0] 46) := ⟨_, rfl⟩
  have bz : Below b w w2 := by rw [hw2, hb]; exact ((Below.refl w.heap.size w).alloc (Nat.le_refl _) _).alloc (by simp) _
  have G0 : w2.heap[b]? = some (.cells #[.int .i64 0, .slice none 0 0] 46 (0, 0)) := by rw [hw2, hb]; exact blk_alloc (heap_alloc_new w _) _
  have G1 : w2.heap[b + 1]? = some (.cells #[.int .i64 0, .slice none 0 0] 46 (0, 0)) := by
    have h1 := heap_alloc_new (w.alloc (.cells #[.int .i64 0, .slice none 0 0] 46)) (.cells #[.int .i64 0, .slice none 0 0] 46)
    rw [show (w.alloc (.cells #[.int .i64 0, .slice none 0 0] 46)).heap.size = b + 1 by rw [hb]; simp] at h1
    rw [hw2]
    exact h1
  have z0 : b + 2 ≤ w2.heap.size := by rw [hw2, hb]; simp
  have HB := Lib.hid hb
  go_enter Tryd.func26, Tryd.ntmps26
  go_wp2_with fail
  rw [← hw2, ← hb]
  clear hw2 hb
  rcases (by omega : ((80 : Int) < n) ∨ ((n : Int) ≤ 80)) with d | d
  · go_loopw [5, 6, 7] (fun bv rv kv wr => ∃ (r c : Nat) (A2 : Option Addr) (c2 : Nat), Hid (r = 1) ∧ Hid (c = 0) ∧ kv = .int .i64 0 ∧ bv = .int .i64 0 ∧ rv = .int .i64 r ∧ wr.heap[b]? = some (.cells #[.int .i64 0, .slice none 0 0] 46 (0, 0)) ∧ wr.heap[b + 1]? = some (.cells #[.int .i64 0, .slice A2 c c2] 46 (0, 0)) ∧ OwnS 3 23 wr (b + 2) (.slice A2 c c2) c (bF l) ∧ Below b w wr ∧ b + 2 ≤ wr.heap.size) (fun _ _ _ _ => 0)
    case atStart => exact ⟨1, 0, none, 0, Lib.hid rfl, Lib.hid rfl, rfl, rfl, rfl, G0, G1, ownS_nil _ _ _ _ _, bz, z0⟩
    case round =>
      clear G0 G1 bz z0
      obtain ⟨r, c, A2, c2, hr, hc, rfl, rfl, rfl, G0, G1, hown, hb, hz⟩ := hrel
      have HO0 := Lib.hid (show blockOk (r : Int) c (bF l) = false by rw [hr.out, hc.out]; exact rb_zero l)
      have d2 : ¬ ((n : Int) ≤ 80) := by omega
      have x0 : wr.cell? ⟨b + 1, 0, none⟩ = some (.int .i64 0) := by rw [blk_cell G1 0]; rfl
      have x1 : wr.cell? ⟨b + 1, 1, none⟩ = some (.slice A2 c c2) := by rw [blk_cell G1 1]; rfl
      have o0 : wr.frozen? ⟨b + 1, 0, none⟩ = false := blk_frozen G1
      obtain ⟨w3, hw3⟩ : ∃ w3, w3 = wr.setCell ⟨b + 1, 0, none⟩ (.int .i64 r) := ⟨_, rfl⟩
      have G13 : w3.heap[b + 1]? = some (.cells #[.int .i64 r, .slice A2 c c2] 46 (0, 0)) := by rw [hw3]; simpa using heap_setCell_same wr (b + 1) 0 _ _ (.int .i64 r) G1
      have G03 : w3.heap[b]? = some (.cells #[.int .i64 0, .slice none 0 0] 46 (0, 0)) := by rw [hw3]; exact blk_set G0 (p := ⟨b + 1, 0, none⟩) (show b ≠ b + 1 by omega) _
      have ho3 : OwnS 3 23 w3 (b + 2) (.slice A2 c c2) c (bF l) := by rw [hw3]; exact hown.setOther (fun q hq => by have := (World.ownsRow.lt hown q hq).1; show b + 1 ≠ q; omega)
      have hb3 : Below b w w3 := by rw [hw3]; exact hb.setCell (p := ⟨b + 1, 0, none⟩) (show b ≤ b + 1 by omega) _
      have hz3 : b + 2 ≤ w3.heap.size := by rw [hw3]; simpa [World.setCell] using hz
      clear G0 G1 hown hb
      go_wp2_with fail
      rw [← hw3]
      clear hw3 x0 x1 o0
      refine (spec_blockOk r A2 c c2 (bF l) _ w3 (ho3.rowP HWF.out) (Nat.le_refl _)).mono ?_
      rintro e w5 ⟨rfl, hb5⟩
      have z5 := hb5.size
      have G05 := blk_below G03 hb5 (by omega)
      have G15 := blk_below G13 hb5 (by omega)
      have ho5 := ho3.keep hb5
      have hbz := hb3.trans (hb5.mono (by omega))
      have x0 : w5.cell? ⟨b + 1, 0, none⟩ = some (.int .i64 r) := by rw [blk_cell G15 0]; rfl
      have x1 : w5.cell? ⟨b + 1, 1, none⟩ = some (.slice A2 c c2) := by rw [blk_cell G15 1]; rfl
      have y0 : w5.cell? ⟨b, 0, none⟩ = some (.int .i64 0) := by rw [blk_cell G05 0]; rfl
      have y1 : w5.cell? ⟨b, 1, none⟩ = some (.slice none 0 0) := by rw [blk_cell G05 1]; rfl
      have q0 : w5.frozen? ⟨b, 0, none⟩ = false := blk_frozen G05
      have q1 : w5.frozen? ⟨b, 1, none⟩ = false := blk_frozen G05
      have hO : blockOk r c (bF l) = false := HO0.out
      have HR := Lib.hid (show readB l = false from readB_long (by have := HN.out; omega))
      have hb6 := (hbz.setCell (p := ⟨b, 0, none⟩) (Nat.le_refl _) (.int .i64 0)).setCell (p := ⟨b, 1, none⟩) (Nat.le_refl _) (.slice none 0 0)
      rw [hO]
      clear G03 G13 ho3 hb3 hb5 G05 G15 ho5 hbz hO x0 x1
      go_wp2
      exact bodyPost_ret (v := .tuple #[.agg #[.int .i64 0, .slice none 0 0], .bool false]) (by simp [results, Tryd.results26, go_sem, y0, y1, q0, q1]) rfl (RbPost.no HR.out (by rw [← HB.out]; exact hb6))
  go_loopw [5, 6, 7] (fun bv rv kv wr => ∃ (k b' r c : Nat) (A2 : Option Addr) (c2 : Nat), k ≤ n + 1 ∧ kv = .int .i64 k ∧ bv = .int .i64 b' ∧ rv = .int .i64 r ∧ r ≤ k + 1 ∧ c ≤ k ∧ b' ≤ k ∧ Hid ((k ≤ n → Cut l k b' c ∧ r = rowsTo l k) ∧ (n < k → c = bN l ∧ r = bS l) ∧ ∀ i, i < c → ∀ p, (pieces l)[i]? = some p → readOk p = true) ∧ wr.heap[b]? = some (.cells #[.int .i64 0, .slice none 0 0] 46 (0, 0)) ∧ wr.heap[b + 1]? = some (.cells #[.int .i64 0, .slice A2 c c2] 46 (0, 0)) ∧ OwnS 3 23 wr (b + 2) (.slice A2 c c2) c (bF l) ∧ Below b w wr ∧ b + 2 ≤ wr.heap.size) (fun _ _ kv _ => n + 2 - (intOf kv).toNat)
  case atStart => exact ⟨0, 0, 1, 0, none, 0, by omega, rfl, rfl, rfl, by omega, by omega, by omega, Lib.hid ⟨fun _ => ⟨cut_0 l, (rowsTo_0 l).symm⟩, fun h => by omega, fun i hi => by omega⟩, G0, G1, ownS_nil _ _ _ _ _, bz, z0⟩
  case round =>
    clear G0 G1 bz z0
    obtain ⟨k, b', r, c, A2, c2, hk, rfl, rfl, rfl, hr, hck, hbk, HI, G0, G1, hown, hb, hz⟩ := hrel
    rcases (by omega : k < n ∨ k = n ∨ k = n + 1) with hkn | hkn | hkn
    · have k0 : (0 : Int) ≤ (k : Int) := by omega
      have k1 : (k : Int) < (n : Int) := by omega
      have k2 : (k : Int) ≤ (n : Int) := by omega
      obtain ⟨p0, hp0⟩ : ∃ q, q = byteI l k := ⟨_, rfl⟩
      have e0 : (((strB l)[k]'(by rw [hs]; omega)).toNat : Int) = p0 := by rw [hp0]; exact strB_atR _
      have hkl : k < l.length := by have := HN.out; omega
      have HKL := Lib.hid hkl
      rcases (by omega : p0 = 44 ∨ p0 = 59 ∨ (p0 ≠ 44 ∧ p0 ≠ 59)) with e | e | ⟨e, e2⟩
      · have s1 : (p0 == 44) = true := beq_iff_eq.2 e
        have s2 : (p0 == 59) = false := beq_eq_false_iff_ne.2 (by omega)
        have s3 : (p0 != 44) = false := by simp only [bne, s1, Bool.not_true]
        have HX := Lib.hid (sep_44 (show byteI l k = 44 by rw [← hp0]; exact e))
        clear hp0 e
        obtain ⟨P, hP⟩ : ∃ P, P = (l.take k).drop b' := ⟨_, rfl⟩
        have HP := Lib.hid (show (pieces l)[c]? = some P by rw [hP]; exact cut_piece (HI.out.1 (by omega)).1 (.inr ⟨hkl, by rw [HX.out]; rfl⟩))
        have HSUB := Lib.hid (show (strB l).extract b' k = strB P by rw [hP]; exact strB_sub l b' k)
        have k3 : (b' : Int) ≤ (k : Int) := by omega
        have k4 : (0 : Int) ≤ (b' : Int) := by omega
        clear hP
        go_wp2_with fail
        rw [HSUB.out]
        refine (spec_readCell P wr).mono ?_
        rintro e w3 ⟨rfl, hb3⟩
        have z3 := hb3.size
        have G03 := blk_below G0 hb3 (by omega)
        have G13 := blk_below G1 hb3 (by omega)
        have ho3 := hown.keep hb3
        have hb4 := hb.trans (hb3.mono (by omega))
        have HQ := Lib.hid (bF_at HP.out)
        obtain ⟨v0, hv0⟩ : ∃ v, v = readC P 0 := ⟨_, rfl⟩
        obtain ⟨v1, hv1⟩ : ∃ v, v = readC P 1 := ⟨_, rfl⟩
        obtain ⟨v2, hv2⟩ : ∃ v, v = readC P 2 := ⟨_, rfl⟩
        rw [← hv0, ← hv1, ← hv2]
        have HV := Lib.hid (show ∀ j, j < 3 → bF l c j = tri v0 v1 v2 j from fun j hj => by
          rw [HQ.out, hv0, hv1, hv2]
          match j, hj with
          | 0, _ => rfl
          | 1, _ => rfl
          | 2, _ => rfl)
        clear hv0 hv1 hv2 hb3 G0 G1 hown hb
        obtain ⟨w4, hw4⟩ : ∃ w4, w4 = w3.alloc (.cells #[.int .i64 v0, .int .i64 v1, .int .i64 v2] 23) := ⟨_, rfl⟩
        have G04 : w4.heap[b]? = some (.cells #[.int .i64 0, .slice none 0 0] 46 (0, 0)) := by rw [hw4]; exact blk_alloc G03 _
        have G14 : w4.heap[b + 1]? = some (.cells #[.int .i64 0, .slice A2 c c2] 46 (0, 0)) := by rw [hw4]; exact blk_alloc G13 _
        have ho4 : OwnS 3 23 w4 (b + 2) (.slice A2 c c2) c (bF l) := by rw [hw4]; exact ho3.alloc _
        have hb5 : Below b w w4 := by rw [hw4]; exact hb4.alloc (by omega) _
        have z4 : w4.heap.size = w3.heap.size + 1 := by rw [hw4]; simp
        clear G13 ho3
        rcases (Bool.eq_false_or_eq_true (readOk P)).symm with hO | hO
        · have HR := Lib.hid (show readB l = false from readB_piece HP.out hO)
          rw [hO]
          have bne3 : b ≠ w3.heap.size := by omega
          have blt3 : b < w3.heap.size := by omega
          obtain ⟨u1, hu1⟩ : ∃ u, u = w3.setCell ⟨b, 0, none⟩ (.int .i64 0) := ⟨_, rfl⟩
          have Gu1 : u1.heap[b]? = some (.cells #[.int .i64 0, .slice none 0 0] 46 (0, 0)) := by rw [hu1]; simpa using heap_setCell_same w3 b 0 _ _ (.int .i64 0) G03
          obtain ⟨u2, hu2⟩ : ∃ u, u = u1.setCell ⟨b, 1, none⟩ (.slice none 0 0) := ⟨_, rfl⟩
          have Gu2 : u2.heap[b]? = some (.cells #[.int .i64 0, .slice none 0 0] 46 (0, 0)) := by rw [hu2]; simpa using heap_setCell_same u1 b 1 _ _ (.slice none 0 0) Gu1
          obtain ⟨u3, hu3⟩ : ∃ u, u = u2.alloc (.cells #[.int .i64 v0, .int .i64 v1, .int .i64 v2] 23) := ⟨_, rfl⟩
          have Gu3 : u3.heap[b]? = some (.cells #[.int .i64 0, .slice none 0 0] 46 (0, 0)) := by rw [hu3]; exact blk_alloc Gu2 _
          have y0 : w3.cell? ⟨b, 0, none⟩ = some (.int .i64 0) := by rw [blk_cell G03 0]; rfl
          have y1 : w3.cell? ⟨b, 1, none⟩ = some (.slice none 0 0) := by rw [blk_cell G03 1]; rfl
          have q0 : w3.frozen? ⟨b, 0, none⟩ = false := blk_frozen G03
          have q1 : w3.frozen? ⟨b, 1, none⟩ = false := blk_frozen G03
          have yy0 : u3.cell? ⟨b, 0, none⟩ = some (.int .i64 0) := by rw [blk_cell Gu3 0]; rfl
          have yy1 : u3.cell? ⟨b, 1, none⟩ = some (.slice none 0 0) := by rw [blk_cell Gu3 1]; rfl
          have hb6 : Below b w u3 := by rw [hu3, hu2, hu1]; exact ((hb4.setCell (p := ⟨b, 0, none⟩) (Nat.le_refl _) _).setCell (p := ⟨b, 1, none⟩) (Nat.le_refl _) _).alloc (by simp [World.setCell]; omega) _
          clear G03 G04 G14 ho4 hb5 hw4 z4 hO hb4 Gu1 Gu2 Gu3
          go_wp2
          rw [← hu1, ← hu2, ← hu3]
          exact bodyPost_ret (v := .tuple #[.agg #[.int .i64 0, .slice none 0 0], .bool false]) (by simp [results, Tryd.results26, go_sem, yy0, yy1]) rfl (RbPost.no HR.out (by rw [← HB.out]; exact hb6))
        · have HOK := Lib.hid hO
          rw [hO]
          have x1 : w4.cell? ⟨b + 1, 1, none⟩ = some (.slice A2 c c2) := by rw [blk_cell G14 1]; rfl
          have x1' : w3.cell? ⟨b + 1, 1, none⟩ = some (.slice A2 c c2) := by rw [← x1, hw4]; exact (((Below.refl w3.heap.size w3).alloc (Nat.le_refl _) _).cell (p := ⟨b + 1, 1, none⟩) (by show b + 1 < w3.heap.size; omega)).symm
          have bne3 : b + 1 ≠ w3.heap.size := by omega
          have blt3 : b + 1 < w3.heap.size := by omega
          have c80 : c ≤ 1048576 := by omega
          clear hO
          subst hw4
          have hnew4 := (by simp : (w3.alloc (.cells #[.int .i64 v0, .int .i64 v1, .int .i64 v2] 23)).heap.size = w3.heap.size + 1) ▸ heap_alloc_new (w3.alloc (.cells #[.int .i64 v0, .int .i64 v1, .int .i64 v2] 23)) (.cells #[.int .i64 v0, .int .i64 v1, .int .i64 v2] 23)
          have HNW := Lib.hid hnew4
          clear hnew4 x1
          go_wp2_with (at_builtin; refine appS_grown Tryd.underlying44 info_cellR rfl (by decide) (by decide) rfl _ _ rfl (b + 2) c _ (bF l) (tri v0 v1 v2) (w3.heap.size + 1) rfl (ho4.alloc _) rfl #[.int .i64 v0, .int .i64 v1, .int .i64 v2] rfl HNW.out c80 (by simp; omega) ?_; intro A6 c6 w6 ho6 hg6; have G16 := row_farR hg6 ho4 (blk_alloc G14 _) (by omega); have t0 : w6.cell? ⟨b + 1, 1, none⟩ = some (.slice A2 c c2) := (by rw [blk_cell G16 1]; rfl); have t1 : w6.frozen? ⟨b + 1, 1, none⟩ = false := blk_frozen G16)
          have G06 := row_farR hg6 ho4 (blk_alloc G04 _) (by omega)
          have G07 := blk_set G06 (p := ⟨b + 1, 1, none⟩) (show b ≠ b + 1 by omega) (.slice A6 (c + 1) c6)
          have G17 : (w6.setCell ⟨b + 1, 1, none⟩ (.slice A6 (c + 1) c6)).heap[b + 1]? = some (.cells #[.int .i64 0, .slice A6 (c + 1) c6] 46 (0, 0)) := by simpa using heap_setCell_same w6 (b + 1) 1 _ _ (.slice A6 (c + 1) c6) G16
          have ho7 := (ho6.congr (f' := bF l) (by decide) (fun a ha j hj => by
            unfold updS
            split
            · rename_i e; subst e; exact (HV.out j hj).symm
            · rfl)).setOther (p := ⟨b + 1, 1, none⟩) (x := .slice A6 (c + 1) c6) (fun q hq => by have := (World.ownsRow.lt ho6 q hq).1; show b + 1 ≠ q; omega)
          have hb7 := ((hb5.alloc (by simp; omega) (.cells #[.int .i64 v0, .int .i64 v1, .int .i64 v2] 23)).grown hg6 (by simp; omega) (fun q hq => by have := (World.ownsRow.lt ho4 q hq).1; omega)).setCell (p := ⟨b + 1, 1, none⟩) (show b ≤ b + 1 by omega) (.slice A6 (c + 1) c6)
          have z9 : b + 2 ≤ (w6.setCell ⟨b + 1, 1, none⟩ (.slice A6 (c + 1) c6)).heap.size := by have := hg6.size; simp [World.setCell] at this ⊢; omega
          have HI2 := Lib.hid (show (k + 1 ≤ n → Cut l (k + 1) (k + 1) (c + 1) ∧ r = rowsTo l (k + 1)) ∧ (n < k + 1 → c + 1 = bN l ∧ r = bS l) ∧ ∀ i, i < c + 1 → ∀ p, (pieces l)[i]? = some p → readOk p = true from ⟨fun _ => ⟨cut_sep HKL.out (HI.out.1 (by omega)).1 (by rw [HX.out]; rfl), by rw [rowsTo_miss HKL.out (by rw [HX.out]; decide)]; exact (HI.out.1 (by omega)).2⟩, fun h => by omega, fun i hi p hp => by
            rcases (by omega : i < c ∨ i = c) with q | rfl
            · exact HI.out.2.2 i q p hp
            · rw [HP.out] at hp; cases hp; exact HOK.out⟩)
          clear G04 G14 G06 G16 ho4 ho6 hb5 hg6 t0 t1 x1' z4 hb4 G03
          go_wp2
          go_roundw
          case rel => exact ⟨k + 1, k + 1, r, c + 1, A6, c6, by omega, by go_num, by go_num, by go_num, by omega, by omega, by omega, HI2, G07, G17, ho7, hb7, z9⟩
          case measure => simp [intOf] <;> omega
      · have s1 : (p0 == 44) = false := beq_eq_false_iff_ne.2 (by omega)
        have s2 : (p0 == 59) = true := beq_iff_eq.2 e
        have s3 : (p0 != 44) = true := by simp only [bne, s1, Bool.not_false]
        have s4 : (p0 != 59) = false := by simp only [bne, s2, Bool.not_true]
        have HX := Lib.hid (sep_59 (show byteI l k = 59 by rw [← hp0]; exact e))
        clear hp0 e
        obtain ⟨P, hP⟩ : ∃ P, P = (l.take k).drop b' := ⟨_, rfl⟩
        have HP := Lib.hid (show (pieces l)[c]? = some P by rw [hP]; exact cut_piece (HI.out.1 (by omega)).1 (.inr ⟨hkl, by rw [HX.out]; rfl⟩))
        have HSUB := Lib.hid (show (strB l).extract b' k = strB P by rw [hP]; exact strB_sub l b' k)
        have k3 : (b' : Int) ≤ (k : Int) := by omega
        have k4 : (0 : Int) ≤ (b' : Int) := by omega
        clear hP
        go_wp2_with fail
        rw [HSUB.out]
        refine (spec_readCell P wr).mono ?_
        rintro e w3 ⟨rfl, hb3⟩
        have z3 := hb3.size
        have G03 := blk_below G0 hb3 (by omega)
        have G13 := blk_below G1 hb3 (by omega)
        have ho3 := hown.keep hb3
        have hb4 := hb.trans (hb3.mono (by omega))
        have HQ := Lib.hid (bF_at HP.out)
        obtain ⟨v0, hv0⟩ : ∃ v, v = readC P 0 := ⟨_, rfl⟩
        obtain ⟨v1, hv1⟩ : ∃ v, v = readC P 1 := ⟨_, rfl⟩
        obtain ⟨v2, hv2⟩ : ∃ v, v = readC P 2 := ⟨_, rfl⟩
        rw [← hv0, ← hv1, ← hv2]
        have HV := Lib.hid (show ∀ j, j < 3 → bF l c j = tri v0 v1 v2 j from fun j hj => by
          rw [HQ.out, hv0, hv1, hv2]
          match j, hj with
          | 0, _ => rfl
          | 1, _ => rfl
          | 2, _ => rfl)
        clear hv0 hv1 hv2 hb3 G0 G1 hown hb
        obtain ⟨w4, hw4⟩ : ∃ w4, w4 = w3.alloc (.cells #[.int .i64 v0, .int .i64 v1, .int .i64 v2] 23) := ⟨_, rfl⟩
        have G04 : w4.heap[b]? = some (.cells #[.int .i64 0, .slice none 0 0] 46 (0, 0)) := by rw [hw4]; exact blk_alloc G03 _
        have G14 : w4.heap[b + 1]? = some (.cells #[.int .i64 0, .slice A2 c c2] 46 (0, 0)) := by rw [hw4]; exact blk_alloc G13 _
        have ho4 : OwnS 3 23 w4 (b + 2) (.slice A2 c c2) c (bF l) := by rw [hw4]; exact ho3.alloc _
        have hb5 : Below b w w4 := by rw [hw4]; exact hb4.alloc (by omega) _
        have z4 : w4.heap.size = w3.heap.size + 1 := by rw [hw4]; simp
        clear G13 ho3
        rcases (Bool.eq_false_or_eq_true (readOk P)).symm with hO | hO
        · have HR := Lib.hid (show readB l = false from readB_piece HP.out hO)
          rw [hO]
          have bne3 : b ≠ w3.heap.size := by omega
          have blt3 : b < w3.heap.size := by omega
          obtain ⟨u1, hu1⟩ : ∃ u, u = w3.setCell ⟨b, 0, none⟩ (.int .i64 0) := ⟨_, rfl⟩
          have Gu1 : u1.heap[b]? = some (.cells #[.int .i64 0, .slice none 0 0] 46 (0, 0)) := by rw [hu1]; simpa using heap_setCell_same w3 b 0 _ _ (.int .i64 0) G03
          obtain ⟨u2, hu2⟩ : ∃ u, u = u1.setCell ⟨b, 1, none⟩ (.slice none 0 0) := ⟨_, rfl⟩
          have Gu2 : u2.heap[b]? = some (.cells #[.int .i64 0, .slice none 0 0] 46 (0, 0)) := by rw [hu2]; simpa using heap_setCell_same u1 b 1 _ _ (.slice none 0 0) Gu1
          obtain ⟨u3, hu3⟩ : ∃ u, u = u2.alloc (.cells #[.int .i64 v0, .int .i64 v1, .int .i64 v2] 23) := ⟨_, rfl⟩
          have Gu3 : u3.heap[b]? = some (.cells #[.int .i64 0, .slice none 0 0] 46 (0, 0)) := by rw [hu3]; exact blk_alloc Gu2 _
          have y0 : w3.cell? ⟨b, 0, none⟩ = some (.int .i64 0) := by rw [blk_cell G03 0]; rfl
          have y1 : w3.cell? ⟨b, 1, none⟩ = some (.slice none 0 0) := by rw [blk_cell G03 1]; rfl
          have q0 : w3.frozen? ⟨b, 0, none⟩ = false := blk_frozen G03
          have q1 : w3.frozen? ⟨b, 1, none⟩ = false := blk_frozen G03
          have yy0 : u3.cell? ⟨b, 0, none⟩ = some (.int .i64 0) := by rw [blk_cell Gu3 0]; rfl
          have yy1 : u3.cell? ⟨b, 1, none⟩ = some (.slice none 0 0) := by rw [blk_cell Gu3 1]; rfl
          have hb6 : Below b w u3 := by rw [hu3, hu2, hu1]; exact ((hb4.setCell (p := ⟨b, 0, none⟩) (Nat.le_refl _) _).setCell (p := ⟨b, 1, none⟩) (Nat.le_refl _) _).alloc (by simp [World.setCell]; omega) _
          clear G03 G04 G14 ho4 hb5 hw4 z4 hO hb4 Gu1 Gu2 Gu3
          go_wp2
          rw [← hu1, ← hu2, ← hu3]
          exact bodyPost_ret (v := .tuple #[.agg #[.int .i64 0, .slice none 0 0], .bool false]) (by simp [results, Tryd.results26, go_sem, yy0, yy1]) rfl (RbPost.no HR.out (by rw [← HB.out]; exact hb6))
        · have HOK := Lib.hid hO
          rw [hO]
          have x1 : w4.cell? ⟨b + 1, 1, none⟩ = some (.slice A2 c c2) := by rw [blk_cell G14 1]; rfl
          have x1' : w3.cell? ⟨b + 1, 1, none⟩ = some (.slice A2 c c2) := by rw [← x1, hw4]; exact (((Below.refl w3.heap.size w3).alloc (Nat.le_refl _) _).cell (p := ⟨b + 1, 1, none⟩) (by show b + 1 < w3.heap.size; omega)).symm
          have bne3 : b + 1 ≠ w3.heap.size := by omega
          have blt3 : b + 1 < w3.heap.size := by omega
          have c80 : c ≤ 1048576 := by omega
          clear hO
          subst hw4
          have hnew4 := (by simp : (w3.alloc (.cells #[.int .i64 v0, .int .i64 v1, .int .i64 v2] 23)).heap.size = w3.heap.size + 1) ▸ heap_alloc_new (w3.alloc (.cells #[.int .i64 v0, .int .i64 v1, .int .i64 v2] 23)) (.cells #[.int .i64 v0, .int .i64 v1, .int .i64 v2] 23)
          have HNW := Lib.hid hnew4
          clear hnew4 x1
          go_wp2_with (at_builtin; refine appS_grown Tryd.underlying44 info_cellR rfl (by decide) (by decide) rfl _ _ rfl (b + 2) c _ (bF l) (tri v0 v1 v2) (w3.heap.size + 1) rfl (ho4.alloc _) rfl #[.int .i64 v0, .int .i64 v1, .int .i64 v2] rfl HNW.out c80 (by simp; omega) ?_; intro A6 c6 w6 ho6 hg6; have G16 := row_farR hg6 ho4 (blk_alloc G14 _) (by omega); have t0 : w6.cell? ⟨b + 1, 1, none⟩ = some (.slice A2 c c2) := (by rw [blk_cell G16 1]; rfl); have t1 : w6.frozen? ⟨b + 1, 1, none⟩ = false := blk_frozen G16)
          have G06 := row_farR hg6 ho4 (blk_alloc G04 _) (by omega)
          have G07 := blk_set G06 (p := ⟨b + 1, 1, none⟩) (show b ≠ b + 1 by omega) (.slice A6 (c + 1) c6)
          have G17 : (w6.setCell ⟨b + 1, 1, none⟩ (.slice A6 (c + 1) c6)).heap[b + 1]? = some (.cells #[.int .i64 0, .slice A6 (c + 1) c6] 46 (0, 0)) := by simpa using heap_setCell_same w6 (b + 1) 1 _ _ (.slice A6 (c + 1) c6) G16
          have ho7 := (ho6.congr (f' := bF l) (by decide) (fun a ha j hj => by
            unfold updS
            split
            · rename_i e; subst e; exact (HV.out j hj).symm
            · rfl)).setOther (p := ⟨b + 1, 1, none⟩) (x := .slice A6 (c + 1) c6) (fun q hq => by have := (World.ownsRow.lt ho6 q hq).1; show b + 1 ≠ q; omega)
          have hb7 := ((hb5.alloc (by simp; omega) (.cells #[.int .i64 v0, .int .i64 v1, .int .i64 v2] 23)).grown hg6 (by simp; omega) (fun q hq => by have := (World.ownsRow.lt ho4 q hq).1; omega)).setCell (p := ⟨b + 1, 1, none⟩) (show b ≤ b + 1 by omega) (.slice A6 (c + 1) c6)
          have z9 : b + 2 ≤ (w6.setCell ⟨b + 1, 1, none⟩ (.slice A6 (c + 1) c6)).heap.size := by have := hg6.size; simp [World.setCell] at this ⊢; omega
          have HI2 := Lib.hid (show (k + 1 ≤ n → Cut l (k + 1) (k + 1) (c + 1) ∧ (r + 1) = rowsTo l (k + 1)) ∧ (n < k + 1 → c + 1 = bN l ∧ (r + 1) = bS l) ∧ ∀ i, i < c + 1 → ∀ p, (pieces l)[i]? = some p → readOk p = true from ⟨fun _ => ⟨cut_sep HKL.out (HI.out.1 (by omega)).1 (by rw [HX.out]; rfl), by rw [rowsTo_hit HKL.out HX.out, (HI.out.1 (by omega)).2]⟩, fun h => by omega, fun i hi p hp => by
            rcases (by omega : i < c ∨ i = c) with q | rfl
            · exact HI.out.2.2 i q p hp
            · rw [HP.out] at hp; cases hp; exact HOK.out⟩)
          clear G04 G14 G06 G16 ho4 ho6 hb5 hg6 t0 t1 x1' z4 hb4 G03
          go_wp2
          go_roundw
          case rel => exact ⟨k + 1, k + 1, (r + 1), c + 1, A6, c6, by omega, by go_num, by go_num, by go_num, by omega, by omega, by omega, HI2, G07, G17, ho7, hb7, z9⟩
          case measure => simp [intOf] <;> omega
      · have s1 : (p0 == 44) = false := beq_eq_false_iff_ne.2 e
        have s2 : (p0 == 59) = false := beq_eq_false_iff_ne.2 e2
        have s3 : (p0 != 44) = true := by simp only [bne, s1, Bool.not_false]
        have s4 : (p0 != 59) = true := by simp only [bne, s2, Bool.not_false]
        have HI2 := Lib.hid (show (k + 1 ≤ n → Cut l (k + 1) b' c ∧ r = rowsTo l (k + 1)) ∧ (n < k + 1 → c = bN l ∧ r = bS l) ∧ ∀ i, i < c → ∀ p, (pieces l)[i]? = some p → readOk p = true from ⟨fun _ => ⟨cut_skip hkl (HI.out.1 (by omega)).1 (sep_no (by rw [← hp0]; exact e) (by rw [← hp0]; exact e2)), by rw [rowsTo_miss hkl (not_59 (by rw [← hp0]; exact e2))]; exact (HI.out.1 (by omega)).2⟩, fun h => by omega, HI.out.2.2⟩)
        clear hp0 e e2 hkl
        go_wp2
        go_roundw
        case rel => exact ⟨k + 1, b', r, c, A2, c2, by omega, by go_num, rfl, rfl, by omega, by omega, by omega, HI2, G0, G1, hown, hb, hz⟩
        case measure => simp [intOf] <;> omega
    · subst hkn
      have k0 : (0 : Int) ≤ (k : Int) := by omega
      have k1 : ¬ (k : Int) < (k : Int) := by omega
      have k2 : (k : Int) ≤ (k : Int) := by omega
      have HX := Lib.hid HN.out
      obtain ⟨P, hP⟩ : ∃ P, P = (l.take k).drop b' := ⟨_, rfl⟩
      have HP := Lib.hid (show (pieces l)[c]? = some P by rw [hP]; exact cut_piece (HI.out.1 (by omega)).1 (.inl HX.out))
      have HSUB := Lib.hid (show (strB l).extract b' k = strB P by rw [hP]; exact strB_sub l b' k)
      have k3 : (b' : Int) ≤ (k : Int) := by omega
      have k4 : (0 : Int) ≤ (b' : Int) := by omega
      clear hP
      go_wp2_with fail
      rw [HSUB.out]
      refine (spec_readCell P wr).mono ?_
      rintro e w3 ⟨rfl, hb3⟩
      have z3 := hb3.size
      have G03 := blk_below G0 hb3 (by omega)
      have G13 := blk_below G1 hb3 (by omega)
      have ho3 := hown.keep hb3
      have hb4 := hb.trans (hb3.mono (by omega))
      have HQ := Lib.hid (bF_at HP.out)
      obtain ⟨v0, hv0⟩ : ∃ v, v = readC P 0 := ⟨_, rfl⟩
      obtain ⟨v1, hv1⟩ : ∃ v, v = readC P 1 := ⟨_, rfl⟩
      obtain ⟨v2, hv2⟩ : ∃ v, v = readC P 2 := ⟨_, rfl⟩
      rw [← hv0, ← hv1, ← hv2]
      have HV := Lib.hid (show ∀ j, j < 3 → bF l c j = tri v0 v1 v2 j from fun j hj => by
        rw [HQ.out, hv0, hv1, hv2]
        match j, hj with
        | 0, _ => rfl
        | 1, _ => rfl
        | 2, _ => rfl)
      clear hv0 hv1 hv2 hb3 G0 G1 hown hb
      obtain ⟨w4, hw4⟩ : ∃ w4, w4 = w3.alloc (.cells #[.int .i64 v0, .int .i64 v1, .int .i64 v2] 23) := ⟨_, rfl⟩
      have G04 : w4.heap[b]? = some (.cells #[.int .i64 0, .slice none 0 0] 46 (0, 0)) := by rw [hw4]; exact blk_alloc G03 _
      have G14 : w4.heap[b + 1]? = some (.cells #[.int .i64 0, .slice A2 c c2] 46 (0, 0)) := by rw [hw4]; exact blk_alloc G13 _
      have ho4 : OwnS 3 23 w4 (b + 2) (.slice A2 c c2) c (bF l) := by rw [hw4]; exact ho3.alloc _
      have hb5 : Below b w w4 := by rw [hw4]; exact hb4.alloc (by omega) _
      have z4 : w4.heap.size = w3.heap.size + 1 := by rw [hw4]; simp
      clear G13 ho3
      rcases (Bool.eq_false_or_eq_true (readOk P)).symm with hO | hO
      · have HR := Lib.hid (show readB l = false from readB_piece HP.out hO)
        rw [hO]
        have bne3 : b ≠ w3.heap.size := by omega
        have blt3 : b < w3.heap.size := by omega
        obtain ⟨u1, hu1⟩ : ∃ u, u = w3.setCell ⟨b, 0, none⟩ (.int .i64 0) := ⟨_, rfl⟩
        have Gu1 : u1.heap[b]? = some (.cells #[.int .i64 0, .slice none 0 0] 46 (0, 0)) := by rw [hu1]; simpa using heap_setCell_same w3 b 0 _ _ (.int .i64 0) G03
        obtain ⟨u2, hu2⟩ : ∃ u, u = u1.setCell ⟨b, 1, none⟩ (.slice none 0 0) := ⟨_, rfl⟩
        have Gu2 : u2.heap[b]? = some (.cells #[.int .i64 0, .slice none 0 0] 46 (0, 0)) := by rw [hu2]; simpa using heap_setCell_same u1 b 1 _ _ (.slice none 0 0) Gu1
        obtain ⟨u3, hu3⟩ : ∃ u, u = u2.alloc (.cells #[.int .i64 v0, .int .i64 v1, .int .i64 v2] 23) := ⟨_, rfl⟩
        have Gu3 : u3.heap[b]? = some (.cells #[.int .i64 0, .slice none 0 0] 46 (0, 0)) := by rw [hu3]; exact blk_alloc Gu2 _
        have y0 : w3.cell? ⟨b, 0, none⟩ = some (.int .i64 0) := by rw [blk_cell G03 0]; rfl
        have y1 : w3.cell? ⟨b, 1, none⟩ = some (.slice none 0 0) := by rw [blk_cell G03 1]; rfl
        have q0 : w3.frozen? ⟨b, 0, none⟩ = false := blk_frozen G03
        have q1 : w3.frozen? ⟨b, 1, none⟩ = false := blk_frozen G03
        have yy0 : u3.cell? ⟨b, 0, none⟩ = some (.int .i64 0) := by rw [blk_cell Gu3 0]; rfl
        have yy1 : u3.cell? ⟨b, 1, none⟩ = some (.slice none 0 0) := by rw [blk_cell Gu3 1]; rfl
        have hb6 : Below b w u3 := by rw [hu3, hu2, hu1]; exact ((hb4.setCell (p := ⟨b, 0, none⟩) (Nat.le_refl _) _).setCell (p := ⟨b, 1, none⟩) (Nat.le_refl _) _).alloc (by simp [World.setCell]; omega) _
        clear G03 G04 G14 ho4 hb5 hw4 z4 hO hb4 Gu1 Gu2 Gu3
        go_wp2
        rw [← hu1, ← hu2, ← hu3]
        exact bodyPost_ret (v := .tuple #[.agg #[.int .i64 0, .slice none 0 0], .bool false]) (by simp [results, Tryd.results26, go_sem, yy0, yy1]) rfl (RbPost.no HR.out (by rw [← HB.out]; exact hb6))
      · have HOK := Lib.hid hO
        rw [hO]
        have x1 : w4.cell? ⟨b + 1, 1, none⟩ = some (.slice A2 c c2) := by rw [blk_cell G14 1]; rfl
        have x1' : w3.cell? ⟨b + 1, 1, none⟩ = some (.slice A2 c c2) := by rw [← x1, hw4]; exact (((Below.refl w3.heap.size w3).alloc (Nat.le_refl _) _).cell (p := ⟨b + 1, 1, none⟩) (by show b + 1 < w3.heap.size; omega)).symm
        have bne3 : b + 1 ≠ w3.heap.size := by omega
        have blt3 : b + 1 < w3.heap.size := by omega
        have c80 : c ≤ 1048576 := by omega
        clear hO
        subst hw4
        have hnew4 := (by simp : (w3.alloc (.cells #[.int .i64 v0, .int .i64 v1, .int .i64 v2] 23)).heap.size = w3.heap.size + 1) ▸ heap_alloc_new (w3.alloc (.cells #[.int .i64 v0, .int .i64 v1, .int .i64 v2] 23)) (.cells #[.int .i64 v0, .int .i64 v1, .int .i64 v2] 23)
        have HNW := Lib.hid hnew4
        clear hnew4 x1
        go_wp2_with (at_builtin; refine appS_grown Tryd.underlying44 info_cellR rfl (by decide) (by decide) rfl _ _ rfl (b + 2) c _ (bF l) (tri v0 v1 v2) (w3.heap.size + 1) rfl (ho4.alloc _) rfl #[.int .i64 v0, .int .i64 v1, .int .i64 v2] rfl HNW.out c80 (by simp; omega) ?_; intro A6 c6 w6 ho6 hg6; have G16 := row_farR hg6 ho4 (blk_alloc G14 _) (by omega); have t0 : w6.cell? ⟨b + 1, 1, none⟩ = some (.slice A2 c c2) := (by rw [blk_cell G16 1]; rfl); have t1 : w6.frozen? ⟨b + 1, 1, none⟩ = false := blk_frozen G16)
        have G06 := row_farR hg6 ho4 (blk_alloc G04 _) (by omega)
        have G07 := blk_set G06 (p := ⟨b + 1, 1, none⟩) (show b ≠ b + 1 by omega) (.slice A6 (c + 1) c6)
        have G17 : (w6.setCell ⟨b + 1, 1, none⟩ (.slice A6 (c + 1) c6)).heap[b + 1]? = some (.cells #[.int .i64 0, .slice A6 (c + 1) c6] 46 (0, 0)) := by simpa using heap_setCell_same w6 (b + 1) 1 _ _ (.slice A6 (c + 1) c6) G16
        have ho7 := (ho6.congr (f' := bF l) (by decide) (fun a ha j hj => by
          unfold updS
          split
          · rename_i e; subst e; exact (HV.out j hj).symm
          · rfl)).setOther (p := ⟨b + 1, 1, none⟩) (x := .slice A6 (c + 1) c6) (fun q hq => by have := (World.ownsRow.lt ho6 q hq).1; show b + 1 ≠ q; omega)
        have hb7 := ((hb5.alloc (by simp; omega) (.cells #[.int .i64 v0, .int .i64 v1, .int .i64 v2] 23)).grown hg6 (by simp; omega) (fun q hq => by have := (World.ownsRow.lt ho4 q hq).1; omega)).setCell (p := ⟨b + 1, 1, none⟩) (show b ≤ b + 1 by omega) (.slice A6 (c + 1) c6)
        have z9 : b + 2 ≤ (w6.setCell ⟨b + 1, 1, none⟩ (.slice A6 (c + 1) c6)).heap.size := by have := hg6.size; simp [World.setCell] at this ⊢; omega
        have HI2 := Lib.hid (show (k + 1 ≤ k → Cut l (k + 1) (k + 1) (c + 1) ∧ r = rowsTo l (k + 1)) ∧ (k < k + 1 → c + 1 = bN l ∧ r = bS l) ∧ ∀ i, i < c + 1 → ∀ p, (pieces l)[i]? = some p → readOk p = true from ⟨fun h => by omega, fun _ => ⟨(cut_end (by rw [← HX.out]; exact (HI.out.1 (by omega)).1)).symm, by rw [(HI.out.1 (by omega)).2, HX.out]; exact rowsTo_end l⟩, fun i hi p hp => by
          rcases (by omega : i < c ∨ i = c) with q | rfl
          · exact HI.out.2.2 i q p hp
          · rw [HP.out] at hp; cases hp; exact HOK.out⟩)
        clear G04 G14 G06 G16 ho4 ho6 hb5 hg6 t0 t1 x1' z4 hb4 G03
        go_wp2
        go_roundw
        case rel => exact ⟨k + 1, k + 1, r, c + 1, A6, c6, by omega, by go_num, by go_num, by go_num, by omega, by omega, by omega, HI2, G07, G17, ho7, hb7, z9⟩
        case measure => simp [intOf] <;> omega
    · have HRC := Lib.hid (HI.out.2.1 (by omega)).1
      have HRS := Lib.hid (show (r : Int) = ((bS l : Nat) : Int) by rw [(HI.out.2.1 (by omega)).2])
      have HA := Lib.hid (show okAll l = true from readB_all fun i hi p hp => HI.out.2.2 i (by rw [HRC.out]; exact hi) p hp)
      subst hkn
      have k2 : ¬ (((n + 1 : Nat) : Int) ≤ (n : Int)) := by omega
      have x0 : wr.cell? ⟨b + 1, 0, none⟩ = some (.int .i64 0) := by rw [blk_cell G1 0]; rfl
      have x1 : wr.cell? ⟨b + 1, 1, none⟩ = some (.slice A2 c c2) := by rw [blk_cell G1 1]; rfl
      have o0 : wr.frozen? ⟨b + 1, 0, none⟩ = false := blk_frozen G1
      obtain ⟨w3, hw3⟩ : ∃ w3, w3 = wr.setCell ⟨b + 1, 0, none⟩ (.int .i64 r) := ⟨_, rfl⟩
      have G13 : w3.heap[b + 1]? = some (.cells #[.int .i64 r, .slice A2 c c2] 46 (0, 0)) := by rw [hw3]; simpa using heap_setCell_same wr (b + 1) 0 _ _ (.int .i64 r) G1
      have G03 : w3.heap[b]? = some (.cells #[.int .i64 0, .slice none 0 0] 46 (0, 0)) := by rw [hw3]; exact blk_set G0 (p := ⟨b + 1, 0, none⟩) (show b ≠ b + 1 by omega) _
      have ho3 : OwnS 3 23 w3 (b + 2) (.slice A2 c c2) c (bF l) := by rw [hw3]; exact hown.setOther (fun q hq => by have := (World.ownsRow.lt hown q hq).1; show b + 1 ≠ q; omega)
      have hb3 : Below b w w3 := by rw [hw3]; exact hb.setCell (p := ⟨b + 1, 0, none⟩) (show b ≤ b + 1 by omega) _
      have hz3 : b + 2 ≤ w3.heap.size := by rw [hw3]; simpa [World.setCell] using hz
      clear G0 G1 hown hb
      go_wp2_with fail
      rw [← hw3]
      clear hw3 x0 x1 o0
      refine (spec_blockOk r A2 c c2 (bF l) _ w3 (ho3.rowP HWF.out) (Nat.le_refl _)).mono ?_
      rintro e w5 ⟨rfl, hb5⟩
      have z5 := hb5.size
      have G05 := blk_below G03 hb5 (by omega)
      have G15 := blk_below G13 hb5 (by omega)
      have ho5 := ho3.keep hb5
      have hbz := hb3.trans (hb5.mono (by omega))
      have x0 : w5.cell? ⟨b + 1, 0, none⟩ = some (.int .i64 r) := by rw [blk_cell G15 0]; rfl
      have x1 : w5.cell? ⟨b + 1, 1, none⟩ = some (.slice A2 c c2) := by rw [blk_cell G15 1]; rfl
      have y0 : w5.cell? ⟨b, 0, none⟩ = some (.int .i64 0) := by rw [blk_cell G05 0]; rfl
      have y1 : w5.cell? ⟨b, 1, none⟩ = some (.slice none 0 0) := by rw [blk_cell G05 1]; rfl
      have q0 : w5.frozen? ⟨b, 0, none⟩ = false := blk_frozen G05
      have q1 : w5.frozen? ⟨b, 1, none⟩ = false := blk_frozen G05
      rcases (Bool.eq_false_or_eq_true (blockOk r c (bF l))).symm with hO | hO
      · have HR := Lib.hid (show readB l = false from readB_no (by rw [← HRS.out, ← HRC.out]; exact hO))
        have hb6 := (hbz.setCell (p := ⟨b, 0, none⟩) (Nat.le_refl _) (.int .i64 0)).setCell (p := ⟨b, 1, none⟩) (Nat.le_refl _) (.slice none 0 0)
        rw [hO]
        clear G03 G13 ho3 hb3 hb5 G05 G15 ho5 hbz hO x0 x1
        go_wp2
        exact bodyPost_ret (v := .tuple #[.agg #[.int .i64 0, .slice none 0 0], .bool false]) (by simp [results, Tryd.results26, go_sem, y0, y1, q0, q1]) rfl (RbPost.no HR.out (by rw [← HB.out]; exact hb6))
      · have HO := Lib.hid hO
        rw [hO]
        clear G03 G13 ho3 hb3 hb5 hO
        go_wp2_with fail
        refine (spec_blockTx r A2 c c2 (bF l) _ w5 (ho5.rowP HWF.out) (Nat.le_refl _)).mono ?_
        rintro e w6 ⟨rfl, hb7⟩
        have z7 := hb7.size
        have G06 := blk_below G05 hb7 (by omega)
        have G16 := blk_below G15 hb7 (by omega)
        have ho6 := ho5.keep hb7
        have hbz6 := hbz.trans (hb7.mono (by omega))
        have x0 : w6.cell? ⟨b + 1, 0, none⟩ = some (.int .i64 r) := by rw [blk_cell G16 0]; rfl
        have x1 : w6.cell? ⟨b + 1, 1, none⟩ = some (.slice A2 c c2) := by rw [blk_cell G16 1]; rfl
        have y0 : w6.cell? ⟨b, 0, none⟩ = some (.int .i64 0) := by rw [blk_cell G06 0]; rfl
        have y1 : w6.cell? ⟨b, 1, none⟩ = some (.slice none 0 0) := by rw [blk_cell G06 1]; rfl
        have q0 : w6.frozen? ⟨b, 0, none⟩ = false := blk_frozen G06
        have q1 : w6.frozen? ⟨b, 1, none⟩ = false := blk_frozen G06
        obtain ⟨T, hT⟩ : ∃ T, T = blockTx r c (bF l) := ⟨_, rfl⟩
        rw [← hT]
        rcases (Bool.eq_false_or_eq_true (T == l)).symm with hE | hE
        · have HR := Lib.hid (show readB l = false from readB_ne (by rw [← HRS.out, ← HRC.out, ← hT]; exact beq_eq_false_iff_ne.1 hE))
          have t1 : ((strB T).toList == (strB l).toList) = false := by rw [strB_beq]; exact hE
          have t2 : ((strB T).toList != (strB l).toList) = true := by simp only [bne, t1, Bool.not_false]
          have hb6 := (hbz6.setCell (p := ⟨b, 0, none⟩) (Nat.le_refl _) (.int .i64 0)).setCell (p := ⟨b, 1, none⟩) (Nat.le_refl _) (.slice none 0 0)
          clear G05 G15 G06 G16 ho5 ho6 hbz hbz6 hb7 hT hE x0 x1
          go_wp2
          exact bodyPost_ret (v := .tuple #[.agg #[.int .i64 0, .slice none 0 0], .bool false]) (by simp [results, Tryd.results26, go_sem, y0, y1, q0, q1]) rfl (RbPost.no HR.out (by rw [← HB.out]; exact hb6))
        · have HR := Lib.hid (show readB l = true from readB_of HA.out (by rw [← HRS.out, ← HRC.out]; exact HO.out) (by rw [← HRS.out, ← HRC.out, ← hT]; exact beq_iff_eq.1 hE))
          have t1 : ((strB T).toList == (strB l).toList) = true := by rw [strB_beq]; exact hE
          have t2 : ((strB T).toList != (strB l).toList) = false := by simp only [bne, t1, Bool.not_true]
          have hb6 := (hbz6.setCell (p := ⟨b, 0, none⟩) (Nat.le_refl _) (.int .i64 r)).setCell (p := ⟨b, 1, none⟩) (Nat.le_refl _) (.slice A2 c c2)
          have hne : ∀ (u : World) (j : Nat) (x : Value), OwnS 3 23 u (b + 2) (.slice A2 c c2) c (bF l) → OwnS 3 23 (u.setCell ⟨b, j, none⟩ x) (b + 2) (.slice A2 c c2) c (bF l) := fun u j x h => h.setOther fun q hq => by have := (World.ownsRow.lt h q hq).1; show b ≠ q; omega
          have ho7 := (hne _ 1 (.slice A2 c c2) (hne _ 0 (.int .i64 r) ho6)).base_ (show b ≤ b + 2 by omega)
          clear G05 G15 G06 G16 ho5 ho6 hbz hbz6 hb7 hT hE hne
          go_wp2
          exact bodyPost_ret (v := .tuple #[.agg #[.int .i64 r, .slice A2 c c2], .bool true]) (by simp [results, Tryd.results26, go_sem, y0, y1, q0, q1]) rfl (RbPost.yes HR.out HRS.out HRC.out (by rw [← HB.out]; exact ho7) (by rw [← HB.out]; exact hb6))
end Go.Proofs.YtheafiaemcmjaaaDoor
