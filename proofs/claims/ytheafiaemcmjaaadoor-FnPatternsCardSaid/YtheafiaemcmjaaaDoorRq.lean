/- Contracts of ReadQuilt: the program's and the reference's. -/
import Derived.Test.YtheafiaemcmjaaaDoorQTx
import Derived.Test.YtheafiaemcmjaaaDoorRead
import Derived.Test.YtheafiaemcmjaaaDoorPureRq
import Derived.Test.YtheafiaemcmjaaaDoorAppS
import Derived.Test.YtheafiaemcmjaaaDoorSpots
import Derived.Test.YtheafiaemcmjaaaDoorShelf
import Derived.Deep.RegionLaw
import Derived.Deep.RegionHeld3
import Derived.Deep.AppendLies
import Derived.Outline
import Derived.Deep.DeepCutAuto
namespace Go.Proofs.YtheafiaemcmjaaaDoor
open Go.ChangeShapes Go.WideShapes Go.ChangeAt Go.RowKit
section
variable {ops : Array Oper} {o : Oper} {a : Act} {Q : Exit → Act → World → Prop} {K : Act → World → Prop} {E : Prop} {w : World}
/-- append of one spot, at a step of a region that draws its order -/
theorem appP_drawn (hgd : o.guard = none) (s x : Operand) (ho : o.op = .call { callee := .builtin .append, args := #[s, x], argTypes := #[33, 33] })
    (base n : Nat) (v : Value) (f : Nat → Nat → Int) (q : Nat → Int) (b : Nat) (hs : a.eval s = v) (hown : OwnS 2 64 w base v n f) (hx : a.eval x = .slice (some ⟨b, 0, none⟩) 1 1)
    (hnew : w.heap[b]? = some (.cells #[.int .i64 (q 0), .int .i64 (q 1)] 64 (0, 0))) (hn : n ≤ 1048576) (hbase : base ≤ w.heap.size)
    (h : ∀ A c w', OwnS 2 64 w' base (.slice A (n + 1) c) (n + 1) (updS f n q) → w.grownBy w' v.ownBlock → K (a.put o.dst (.slice A (n + 1) c)) w') :
    if Region.wanted o (yielded ops a.tmps) = true then Oper.wp Tryd.prog o a w K Q else E := by
  have hw : Region.wanted o (yielded ops a.tmps) = true := by simp [Region.wanted, hgd]
  rw [if_pos hw]
  obtain ⟨i0, hi, hz0, hz1, hz2⟩ := info_parts info_spot
  refine wp_append_own w s x 33 ho base 64 i0 (.agg #[.int .i64 0, .int .i64 0]) 2 16 Tryd.underlying33 hi hz0 hz1 hz2 rfl (by decide) v n _ hs hown ⟨b, 0, none⟩ 1 1 [.int .i64 (q 0), .int .i64 (q 1)] hx rfl (World.news_of_block (cs := #[.int .i64 (q 0), .int .i64 (q 1)]) hnew) (by simp [Value.oneCell'])
    (by unfold maxLen; omega) (by omega) hbase ?_
  intro v' w' h1 h2 _
  have e1 : flatS 2 n f ++ [.int .i64 (q 0), .int .i64 (q 1)] = flatS 2 (n + 1) (updS f n q) := by
    rw [flatS_snoc _ (by decide), updS_eq, flatS_congr (by decide) (f := f) (f' := updS f n q) (fun i hi j _ => by rw [updS_lt hi])]
    rfl
  have h3 : OwnS 2 64 w' base v' (n + 1) (updS f n q) := by unfold OwnS; rw [← e1]; exact h1
  obtain ⟨A, c, e2⟩ := h3.shape
  rw [e2] at h3 ⊢
  exact h A c w' h3 h2
end
theorem row_farq {w w0 w' : World} {base m e n g : Nat} {v : Value} {f : Nat → Nat → Int} {o : Obj} (hg : w.grownBy w' v.ownBlock) (ho : OwnS m e w0 base v n f) (h : w.heap[g]? = some o) (hlt : g < base := by omega) : w'.heap[g]? = some o :=
  (hg.block g (blk_lt h) (fun e => by have := (World.ownsRow.lt ho g e.symm).1; omega)).trans h
theorem strB_at {l : List UInt8} {i : Nat} (h : i < (strB l).size) : (((strB l)[i]'h).toNat : Int) = byteI l i := by
  have h2 : i < l.length := by rw [← strB_size]; exact h
  have e : (strB l)[i]'h = l[i] := by
    show (l.toArray)[i]'(by rw [List.size_toArray]; exact h2) = l[i]
    exact List.getElem_toArray _
  rw [e]
  unfold byteI
  simp [List.getD, h2]
theorem updS_sameP (f : Nat → Nat → Int) (k : Nat) {q : Nat → Int} (h : f k = q) : updS f k q = f := by
  funext i
  unfold updS
  split
  · rename_i e; rw [e, h]
  · rfl
theorem piece_at2 {c : UInt8} {l p q : List UInt8} {ps : List (List UInt8)} (e : pcs c l = p :: ps) (h4 : p.length = 4) {i : Nat} (h : ∀ j, j < i → ∀ q, ps[j]? = some q → q.length = 2) (hq : ps[i]? = some q) (h2 : q.length = 2) : byteI l (5 + 3 * i) = byteI q 0 ∧ byteI l (6 + 3 * i) = byteI q 1 := by
  match q, h2 with
  | [a, b], _ => exact piece_at e h4 h hq
def pair2 (a b : Int) : Nat → Int
  | 0 => a
  | _ => b
theorem cF_wf (l : List UInt8) : ∀ a, a < rN l → ∀ j, j < 2 → (Lit.int .i64 (cF l a j)).wf = true := fun a _ j _ => WalkArith.wf_i64 (by
  unfold cF
  have h1 := byteI_bd l (5 + 3 * a)
  have h2 := byteI_bd l (6 + 3 * a)
  split <;> omega)
theorem rN_bd (l : List UInt8) : rN l ≤ 100 := by
  unfold rN
  split
  · rename_i h
    have := (readQ_t h).2.1
    unfold cN
    omega
  · omega
def RqPost (l : List UInt8) (w : World) (e : Ending) (w' : World) : Prop := ∃ A c, e = .returned (.tuple #[.agg #[.int .i64 (rW l), .int .i64 (rH l), .slice A (rN l) c], .bool (readQ l)]) ∧ OwnS 2 64 w' w.heap.size (.slice A (rN l) c) (rN l) (cF l) ∧ Below w.heap.size w w'
theorem RqPost.no {l : List UInt8} {w w' : World} (h : readQ l = false) (hb : Below w.heap.size w w') : RqPost l w (.returned (.tuple #[.agg #[.int .i64 0, .int .i64 0, .slice none 0 0], .bool false])) w' := by
  have e0 : rW l = 0 := by unfold rW; rw [h]; rfl
  have e1 : rH l = 0 := by unfold rH; rw [h]; rfl
  have e2 : rN l = 0 := by unfold rN; rw [h]; rfl
  refine ⟨none, 0, ?_, ?_, hb⟩
  · rw [e0, e1, e2, h]
  · rw [e2]; exact ownS_nil _ _ _ _ _
theorem RqPost.yes {l : List UInt8} {w w' : World} {A : Option Addr} {n c : Nat} (h : readQ l = true) (hn : n = cN l) (ho : OwnS 2 64 w' w.heap.size (.slice A n c) n (cF l)) (hb : Below w.heap.size w w') : RqPost l w (.returned (.tuple #[.agg #[.int .i64 (cW l), .int .i64 (cH l), .slice A n c], .bool true])) w' := by
  have e0 : rW l = cW l := by unfold rW; rw [h]; rfl
  have e1 : rH l = cH l := by unfold rH; rw [h]; rfl
  have e2 : rN l = cN l := by unfold rN; rw [h]; rfl
  subst hn
  refine ⟨A, c, ?_, ?_, hb⟩
  · rw [e0, e1, e2, h]
  · rw [e2]; exact ho
set_option maxRecDepth 100000 in
set_option maxHeartbeats 4000000 in
theorem spec_readQ (l : List UInt8) (w : World) (hl : l.length ≤ 1048576) : Calls Tryd.prog 22 #[.string (strB l)] w (RqPost l w) := by
  obtain ⟨n, hn⟩ : ∃ n, n = l.length := ⟨_, rfl⟩
  have hs : (strB l).size = n := by rw [strB_size, hn]
  have HN := Lib.hid hn
  rw [← hn] at hl
  clear hn
  rcases (by omega : ((n : Int) < 7) ∨ ((7 : Int) ≤ n ∧ (200 : Int) < n) ∨ ((7 : Int) ≤ n ∧ (n : Int) ≤ 200)) with d | ⟨d, d2⟩ | ⟨d, d2⟩
  · have HR := Lib.hid (show readQ l = false by
      rcases Bool.eq_false_or_eq_true (readQ l) with e | e
      · have := (readQ_t e).1; have := HN.out; omega
      · exact e)
    go_enter Tryd.func22, Tryd.ntmps22
    go_wp2
    exact bodyPost_ret (v := .tuple #[.agg #[.int .i64 0, .int .i64 0, .slice none 0 0], .bool false]) (by simp [results, Tryd.results22, go_sem]) rfl (RqPost.no HR.out ((((Below.refl _ _).alloc (Nat.le_refl _) _)) |> fun h => h))
  · have HR := Lib.hid (show readQ l = false by
      rcases Bool.eq_false_or_eq_true (readQ l) with e | e
      · have := (readQ_t e).2.1; have := HN.out; omega
      · exact e)
    have d3 : ¬ (n : Int) < 7 := by omega
    go_enter Tryd.func22, Tryd.ntmps22
    go_wp2
    exact bodyPost_ret (v := .tuple #[.agg #[.int .i64 0, .int .i64 0, .slice none 0 0], .bool false]) (by simp [results, Tryd.results22, go_sem]) rfl (RqPost.no HR.out ((((Below.refl _ _).alloc (Nat.le_refl _) _)) |> fun h => h))
  have d3 : ¬ (n : Int) < 7 := by omega
  have d4 : ¬ (200 : Int) < (n : Int) := by omega
  have i0 : 0 < n := by omega
  have i2 : (2 : Int) < (n : Int) := by omega
  obtain ⟨b0, hb0⟩ : ∃ b, b = byteI l 0 := ⟨_, rfl⟩
  obtain ⟨b2, hb2⟩ : ∃ b, b = byteI l 2 := ⟨_, rfl⟩
  have e0 : (((strB l)[0]'(by rw [hs]; omega)).toNat : Int) = b0 := by rw [hb0]; exact strB_at _
  have e2 : (((strB l)[2]'(by rw [hs]; omega)).toNat : Int) = b2 := by rw [hb2]; exact strB_at _
  have bd0 := byteI_bd l 0
  have bd2 := byteI_bd l 2
  rw [← hb0] at bd0
  rw [← hb2] at bd2
  obtain ⟨cw, hcw⟩ : ∃ c, c = b0 - 48 := ⟨_, rfl⟩
  obtain ⟨ch, hch⟩ : ∃ c, c = b2 - 48 := ⟨_, rfl⟩
  have u0 : IntKind.i64.wrap b0 = b0 := IntWalk.i64_in _ (by omega)
  have u1 : IntKind.i64.wrap (b0 - 48) = cw := by rw [IntWalk.i64_in _ (by omega)]; omega
  have u2 : IntKind.i64.wrap b2 = b2 := IntWalk.i64_in _ (by omega)
  have u3 : IntKind.i64.wrap (b2 - 48) = ch := by rw [IntWalk.i64_in _ (by omega)]; omega
  have HW := Lib.hid (show cW l = cw by unfold cW; rw [hcw, hb0])
  have HH := Lib.hid (show cH l = ch by unfold cH; rw [hch, hb2])
  clear hb0 hb2 hcw hch bd0 bd2
  go_enter Tryd.func22, Tryd.ntmps22
  go_wp2_with fail
  go_region
  clear u0 u1 u2 u3 e0 e2
  obtain ⟨b, hb⟩ : ∃ b, b = w.heap.size := ⟨_, rfl⟩
  obtain ⟨w2, hw2⟩ : ∃ w2, w2 = ((w.alloc (.cells #[.int .i64 0, .int .i64 0, .slice none 0 0] 35)).alloc (.cells #[.int .i64 cw, .int .i64 ch, .slice none 0 0] 35)).drew := ⟨_, rfl⟩
  have bz : Below b w w2 := by rw [hw2, hb]; exact (((Below.refl w.heap.size w).alloc (Nat.le_refl _) _).alloc (by simp) _).drew
  have G0 : w2.heap[b]? = some (.cells #[.int .i64 0, .int .i64 0, .slice none 0 0] 35 (0, 0)) := by rw [hw2, hb]; exact blk_alloc (heap_alloc_new w _) _
  have G1 : w2.heap[b + 1]? = some (.cells #[.int .i64 cw, .int .i64 ch, .slice none 0 0] 35 (0, 0)) := by
    have h1 := heap_alloc_new (w.alloc (.cells #[.int .i64 0, .int .i64 0, .slice none 0 0] 35)) (.cells #[.int .i64 cw, .int .i64 ch, .slice none 0 0] 35)
    rw [show (w.alloc (.cells #[.int .i64 0, .int .i64 0, .slice none 0 0] 35)).heap.size = b + 1 by rw [hb]; simp] at h1
    rw [hw2]
    exact h1
  have z0 : b + 2 ≤ w2.heap.size := by rw [hw2, hb]; simp
  have HB := Lib.hid hb
  obtain ⟨N, hN⟩ : ∃ N, N = cN l := ⟨_, rfl⟩
  have hNn : 3 * N + 4 ≤ n ∧ n ≤ 3 * N + 6 := by have := HN.out; unfold cN at hN; omega
  have HNC := Lib.hid hN
  rw [← hw2, ← hb]
  clear hw2 hb hN
  go_wp2_with fail
  go_loopw [5] (fun kv wr => ∃ (i : Nat) (A2 : Option Addr) (c2 : Nat), i ≤ N ∧ kv = .int .i64 ((5 + 3 * i : Nat) : Int) ∧ wr.heap[b]? = some (.cells #[.int .i64 0, .int .i64 0, .slice none 0 0] 35 (0, 0)) ∧ wr.heap[b + 1]? = some (.cells #[.int .i64 cw, .int .i64 ch, .slice A2 i c2] 35 (0, 0)) ∧ OwnS 2 64 wr (b + 2) (.slice A2 i c2) i (cF l) ∧ Below b w wr ∧ b + 2 ≤ wr.heap.size) (fun kv _ => n - (intOf kv).toNat)
  case atStart => exact ⟨0, none, 0, by omega, rfl, G0, G1, ownS_nil _ _ _ _ _, bz, z0⟩
  case round =>
    clear G0 G1 bz z0
    obtain ⟨i, A2, c2, hi, rfl, G0, G1, hown, hb, hz⟩ := hrel
    have o1 : wr.cell? ⟨b + 1, 2, none⟩ = some (.slice A2 i c2) := by rw [blk_cell G1 2]; rfl
    obtain ⟨K, hK⟩ : ∃ K, K = 5 + 3 * i := ⟨_, rfl⟩
    have HK := Lib.hid hK
    obtain ⟨K1, hK1⟩ : ∃ K1, K1 = K + 1 := ⟨_, rfl⟩
    have v1 : IntKind.i64.wrap ((K : Int) + 1) = (K1 : Int) := by rw [IntWalk.i64_in _ (by omega)]; omega
    have v0 : (K : Int) + 1 = (K1 : Int) := by omega
    rw [← hK]
    by_cases hlt : i < N
    · have k1 : (K : Int) < (n : Int) := by omega
      have k2 : (K1 : Int) < (n : Int) := by omega
      have k3 : K1 < n := by omega
      have k4 : K < n := by omega
      have o2 : wr.frozen? ⟨b + 1, 2, none⟩ = false := blk_frozen G1
      obtain ⟨p0, hp0⟩ : ∃ b, b = byteI l K := ⟨_, rfl⟩
      obtain ⟨p1, hp1⟩ : ∃ b, b = byteI l K1 := ⟨_, rfl⟩
      have e0 : (((strB l)[K]'(by rw [hs]; omega)).toNat : Int) = p0 := by rw [hp0]; exact strB_at _
      have e1 : (((strB l)[K1]'(by rw [hs]; omega)).toNat : Int) = p1 := by rw [hp1]; exact strB_at _
      have bd0 := byteI_bd l K
      have bd1 := byteI_bd l K1
      rw [← hp0] at bd0
      rw [← hp1] at bd1
      obtain ⟨s0, hs0⟩ : ∃ c, c = p0 - 48 := ⟨_, rfl⟩
      obtain ⟨s1, hs1⟩ : ∃ c, c = p1 - 97 := ⟨_, rfl⟩
      have u0 : IntKind.i64.wrap p0 = p0 := IntWalk.i64_in _ (by omega)
      have u1 : IntKind.i64.wrap (p0 - 48) = s0 := by rw [IntWalk.i64_in _ (by omega)]; omega
      have u2 : IntKind.i64.wrap p1 = p1 := IntWalk.i64_in _ (by omega)
      have u3 : IntKind.i64.wrap (p1 - 97) = s1 := by rw [IntWalk.i64_in _ (by omega)]; omega
      have HQ := Lib.hid (show ∀ j, j < 2 → cF l i j = pair2 s0 s1 j by
        intro j hj
        rcases (by omega : j = 0 ∨ j = 1) with rfl | rfl
        · show byteI l (5 + 3 * i) - 48 = s0
          rw [hs0, hp0, hK]
        · show byteI l (6 + 3 * i) - 97 = s1
          rw [hs1, hp1, hK1, hK, show 5 + 3 * i + 1 = 6 + 3 * i by omega])
      have n36 : i ≤ 100 := by omega
      have zb : b + 1 < wr.heap.size := by omega
      have zb2 : b + 1 ≠ wr.heap.size := by omega
      clear hp0 hp1 hs0 hs1 bd0 bd1 hK hK1 v0
      go_wp2_with fail
      go_region_law (refine appP_drawn (by rfl) _ _ (by rfl) (b + 2) i _ (cF l) (pair2 s0 s1) wr.heap.size (by rfl) (OwnS.drew (hown.alloc _)) (by rfl) (by exact heap_alloc_new wr _) (by omega) (by simp; omega) ?_; intro A4 c4 w4 ho4 hg4; have G14 := row_farq hg4 hown (blk_alloc (w := wr) G1 _); have t0 : w4.cell? ⟨b + 1, 2, none⟩ = some (.slice A2 i c2) := (by rw [blk_cell G14 2]; rfl); have t1 : w4.frozen? ⟨b + 1, 2, none⟩ = false := blk_frozen G14)
      all_goals
        have G04 := row_farq hg4 hown (blk_alloc (w := wr) G0 _) (by omega)
        have G05 := blk_set G04 (p := ⟨b + 1, 2, none⟩) (show b ≠ b + 1 by omega) (.slice A4 (i + 1) c4)
        have G15 : (w4.setCell ⟨b + 1, 2, none⟩ (.slice A4 (i + 1) c4)).heap[b + 1]? = some (.cells #[.int .i64 cw, .int .i64 ch, .slice A4 (i + 1) c4] 35 (0, 0)) := by simpa using heap_setCell_same w4 (b + 1) 2 _ _ (.slice A4 (i + 1) c4) G14
        have ho5 := (ho4.congr (f' := cF l) (by decide) (fun a ha j hj => by
          unfold updS
          split
          · rename_i e; subst e; exact (HQ.out j hj).symm
          · rfl)).setOther (p := ⟨b + 1, 2, none⟩) (x := .slice A4 (i + 1) c4) (fun q hq => by have := (World.ownsRow.lt ho4 q hq).1; show b + 1 ≠ q; omega)
        have hb6 := (((hb.alloc (show b ≤ wr.heap.size by omega) (.cells #[.int .i64 s0, .int .i64 s1] 64)).drew).grown hg4 (by simp; omega) (fun q hq => by have := (World.ownsRow.lt hown q hq).1; omega)).setCell (p := ⟨b + 1, 2, none⟩) (show b ≤ b + 1 by omega) (.slice A4 (i + 1) c4)
        have z9 : b + 2 ≤ (w4.setCell ⟨b + 1, 2, none⟩ (.slice A4 (i + 1) c4)).heap.size := by have := hg4.size; simp [World.setCell] at this ⊢; omega
        have K3 : (K : Int) + 3 = ((5 + 3 * (i + 1) : Nat) : Int) := by have := HK.out; omega
        have K4 : IntKind.i64.wrap ((K : Int) + 3) = ((5 + 3 * (i + 1) : Nat) : Int) := by rw [IntWalk.i64_in _ (by omega)]; exact K3
        have K5 : K < n := k4
        clear G0 G1 G14 G04 hown ho4 hb hg4 t0 t1 o1 o2 e0 e1 u0 u1 u2 u3 v1
        go_wp2
        go_roundw
        case rel => exact ⟨i + 1, A4, c4, by omega, by go_num, G05, G15, ho5, hb6, z9⟩
        case measure => have := HK.out; simp [intOf]; omega
    · obtain rfl : i = N := by omega
      have k2 : ¬ (K1 : Int) < (n : Int) := by omega
      have x0 : wr.cell? ⟨b + 1, 0, none⟩ = some (.int .i64 cw) := by rw [blk_cell G1 0]; rfl
      have x1 : wr.cell? ⟨b + 1, 1, none⟩ = some (.int .i64 ch) := by rw [blk_cell G1 1]; rfl
      have hwf : ∀ a, a < i → ∀ j, j < 2 → (Lit.int .i64 (cF l a j)).wf = true := fun a _ j _ => WalkArith.wf_i64 (by
        unfold cF
        have h1 := byteI_bd l (5 + 3 * a)
        have h2 := byteI_bd l (6 + 3 * a)
        split <;> omega)
      have HWF := Lib.hid hwf
      clear hK hK1 v0 hwf
      go_wp2_with fail
      refine (spec_shape cw ch A2 i c2 (cF l) _ wr (hown.rowP HWF.out) (Nat.le_refl _)).mono ?_
      rintro e w5 ⟨rfl, hb5⟩
      have z5 := hb5.size
      have G05 := blk_below G0 hb5 (by omega)
      have G15 := blk_below G1 hb5 (by omega)
      have ho5 := hown.keep hb5
      have hbz := hb.trans (hb5.mono (by omega))
      have x0 : w5.cell? ⟨b + 1, 0, none⟩ = some (.int .i64 cw) := by rw [blk_cell G15 0]; rfl
      have x1 : w5.cell? ⟨b + 1, 1, none⟩ = some (.int .i64 ch) := by rw [blk_cell G15 1]; rfl
      have x2 : w5.cell? ⟨b + 1, 2, none⟩ = some (.slice A2 i c2) := by rw [blk_cell G15 2]; rfl
      have y0 : w5.cell? ⟨b, 0, none⟩ = some (.int .i64 0) := by rw [blk_cell G05 0]; rfl
      have y1 : w5.cell? ⟨b, 1, none⟩ = some (.int .i64 0) := by rw [blk_cell G05 1]; rfl
      have y2 : w5.cell? ⟨b, 2, none⟩ = some (.slice none 0 0) := by rw [blk_cell G05 2]; rfl
      have q0 : w5.frozen? ⟨b, 0, none⟩ = false := blk_frozen G05
      have q1 : w5.frozen? ⟨b, 1, none⟩ = false := blk_frozen G05
      have q2 : w5.frozen? ⟨b, 2, none⟩ = false := blk_frozen G05
      have hlne : l ≠ [] := fun e => by have := HN.out; rw [e] at this; simp at this; omega
      rcases (Bool.eq_false_or_eq_true (quiltOk cw ch i (cF l))).symm with hO | hO
      · have HR := Lib.hid (show readQ l = false from readQ_f hlne (by rw [HW.out, HH.out, ← HNC.out, quiltTx_no hO]; exact fun e => hlne e.symm))
        have hb6 := ((hbz.setCell (p := ⟨b, 0, none⟩) (Nat.le_refl _) (.int .i64 0)).setCell (p := ⟨b, 1, none⟩) (Nat.le_refl _) (.int .i64 0)).setCell (p := ⟨b, 2, none⟩) (Nat.le_refl _) (.slice none 0 0)
        rw [hO]
        clear G0 G1 hown hb hb5 G05 G15 ho5 hbz hO hlne x0 x1 x2 o1 v1
        go_wp2
        exact bodyPost_ret (v := .tuple #[.agg #[.int .i64 0, .int .i64 0, .slice none 0 0], .bool false]) (by simp [results, Tryd.results22, go_sem, y0, y1, y2, q0, q1, q2]) rfl (RqPost.no HR.out (by rw [← HB.out]; exact hb6))
      · have HO := Lib.hid hO
        rw [hO]
        clear G0 G1 hown hb hb5 hO o1 v1
        go_wp2_with fail
        refine (spec_quiltTx cw ch A2 i c2 (cF l) _ w5 (ho5.rowP HWF.out) (Nat.le_refl _)).mono ?_
        rintro e w6 ⟨rfl, hb7⟩
        have z7 := hb7.size
        have G06 := blk_below G05 hb7 (by omega)
        have G16 := blk_below G15 hb7 (by omega)
        have ho6 := ho5.keep hb7
        have hbz6 := hbz.trans (hb7.mono (by omega))
        have x0 : w6.cell? ⟨b + 1, 0, none⟩ = some (.int .i64 cw) := by rw [blk_cell G16 0]; rfl
        have x1 : w6.cell? ⟨b + 1, 1, none⟩ = some (.int .i64 ch) := by rw [blk_cell G16 1]; rfl
        have x2 : w6.cell? ⟨b + 1, 2, none⟩ = some (.slice A2 i c2) := by rw [blk_cell G16 2]; rfl
        have y0 : w6.cell? ⟨b, 0, none⟩ = some (.int .i64 0) := by rw [blk_cell G06 0]; rfl
        have y1 : w6.cell? ⟨b, 1, none⟩ = some (.int .i64 0) := by rw [blk_cell G06 1]; rfl
        have y2 : w6.cell? ⟨b, 2, none⟩ = some (.slice none 0 0) := by rw [blk_cell G06 2]; rfl
        have q0 : w6.frozen? ⟨b, 0, none⟩ = false := blk_frozen G06
        have q1 : w6.frozen? ⟨b, 1, none⟩ = false := blk_frozen G06
        have q2 : w6.frozen? ⟨b, 2, none⟩ = false := blk_frozen G06
        obtain ⟨T, hT⟩ : ∃ T, T = quiltTx cw ch i (cF l) := ⟨_, rfl⟩
        rw [← hT]
        rcases (Bool.eq_false_or_eq_true (T == l)).symm with hE | hE
        · have HR := Lib.hid (show readQ l = false from readQ_f hlne (by rw [HW.out, HH.out, ← HNC.out, ← hT]; exact beq_eq_false_iff_ne.1 hE))
          have t1 : ((strB T).toList == (strB l).toList) = false := by rw [strB_beq]; exact hE
          have t2 : ((strB T).toList != (strB l).toList) = true := by simp only [bne, t1, Bool.not_false]
          have hb6 := ((hbz6.setCell (p := ⟨b, 0, none⟩) (Nat.le_refl _) (.int .i64 0)).setCell (p := ⟨b, 1, none⟩) (Nat.le_refl _) (.int .i64 0)).setCell (p := ⟨b, 2, none⟩) (Nat.le_refl _) (.slice none 0 0)
          clear G05 G15 G06 G16 ho5 ho6 hbz hbz6 hb7 hlne hT hE x0 x1 x2
          go_wp2
          exact bodyPost_ret (v := .tuple #[.agg #[.int .i64 0, .int .i64 0, .slice none 0 0], .bool false]) (by simp [results, Tryd.results22, go_sem, y0, y1, y2, q0, q1, q2]) rfl (RqPost.no HR.out (by rw [← HB.out]; exact hb6))
        · have HR := Lib.hid (show readQ l = true from readQ_of hlne (by rw [HW.out, HH.out, ← HNC.out, ← hT]; exact beq_iff_eq.1 hE))
          have t1 : ((strB T).toList == (strB l).toList) = true := by rw [strB_beq]; exact hE
          have t2 : ((strB T).toList != (strB l).toList) = false := by simp only [bne, t1, Bool.not_true]
          have hb6 := ((hbz6.setCell (p := ⟨b, 0, none⟩) (Nat.le_refl _) (.int .i64 cw)).setCell (p := ⟨b, 1, none⟩) (Nat.le_refl _) (.int .i64 ch)).setCell (p := ⟨b, 2, none⟩) (Nat.le_refl _) (.slice A2 i c2)
          have hne : ∀ (u : World) (j : Nat) (x : Value), OwnS 2 64 u (b + 2) (.slice A2 i c2) i (cF l) → OwnS 2 64 (u.setCell ⟨b, j, none⟩ x) (b + 2) (.slice A2 i c2) i (cF l) := fun u j x h => h.setOther fun q hq => by have := (World.ownsRow.lt h q hq).1; show b ≠ q; omega
          have ho7 := (hne _ 2 (.slice A2 i c2) (hne _ 1 (.int .i64 ch) (hne _ 0 (.int .i64 cw) ho6))).base_ (show b ≤ b + 2 by omega)
          clear G05 G15 G06 G16 ho5 ho6 hbz hbz6 hb7 hlne hT hE hne
          go_wp2
          exact bodyPost_ret (v := .tuple #[.agg #[.int .i64 cw, .int .i64 ch, .slice A2 i c2], .bool true]) (by simp [results, Tryd.results22, go_sem, y0, y1, y2, q0, q1, q2]) rfl (by rw [← HW.out, ← HH.out]; exact RqPost.yes HR.out HNC.out (by rw [← HB.out, HW.out, HH.out]; exact ho7) (by rw [← HB.out, HW.out, HH.out]; exact hb6))
end Go.Proofs.YtheafiaemcmjaaaDoor
