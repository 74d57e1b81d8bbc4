/- Contracts of the contrasts of blocks: the reference's side. -/
import Derived.Test.YthenjmjnooaokaaEdge
import Derived.Test.YthenjmjnooaokaaBlock
import Derived.Test.YthenjmjnooaokaaPureCt
import Derived.Test.YthenjmjnooaokaaRii
import Derived.Test.YthenjmjnooaokaaAppS
import Derived.Outline
import Derived.Deep.DeepCutAuto
namespace Go.Proofs.Ythenjmjnooaokaa
open Go.ChangeShapes Go.WideShapes Go.ChangeAt Go.RowKit
theorem own_pair (w : World) (x y : Int) : OwnI (w.alloc (.cells #[.int .i64 x, .int .i64 y] 3)) w.heap.size (.slice (some ⟨w.heap.size, 0, none⟩) 2 2) [x, y] :=
  World.ownsRow_lit w #[.int .i64 x, .int .i64 y] 2 (Nat.le_refl _) (by unfold maxLen; omega) rfl
section
variable {ops : Array Oper} {rest : List Oper} {o : Oper} {a : Act} {Q : Exit → Act → World → Prop} {K : Act → World → Prop} {E : Prop} {w : World}
/-- a row is appended; a block of another type stays as it was -/
theorem appII_keep (hgd : o.guard = none) (s x : Operand) (ho : o.op = .call { callee := .builtin .append, args := #[s, x], argTypes := #[85, 85] })
    (base H n : Nat) (v v1 : Value) (z : Nat → List Int) (b g : Nat) (cs : Array Value) (t : TypeId) (hg : w.heap[g]? = some (.cells cs t (0, 0))) (ht : t ≠ 44) (hs : a.eval s = v) (hown : OwnII w base H v n z) (hrow : OwnI w H v1 (z n)) (hH : base ≤ H) (hx : a.eval x = .slice (some ⟨b, 0, none⟩) 1 1)
    (hnew : w.heap[b]? = some (.cells #[v1] 44 (0, 0))) (hn : n ≤ 1073741824) (hbase : base ≤ w.heap.size)
    (h : ∀ v' w', OwnII w' base w'.heap.size v' (n + 1) z → Below base w w' → w'.heap[g]? = some (.cells cs t (0, 0)) → wpList Try.prog ops Q rest (a.put o.dst v') w') : wpList Try.prog ops Q (o :: rest) a w := by
  obtain ⟨i0, hi, hz0, hz1, hz2⟩ := info_parts info_row
  obtain ⟨h1, h2, h3, h4⟩ := hown.choose_spec
  refine wpList_append_own w hgd s x 85 ho base 44 i0 _ 1 24 Try.underlying85 hi hz0 hz1 hz2 rfl (by decide) v n _ hs h1 ⟨b, 0, none⟩ 1 1 [v1] hx rfl (World.news_of_block (cs := #[v1]) hnew) ?_
    (by unfold maxLen; omega) (by omega) hbase ?_
  · intro u hu
    obtain ⟨A, c, e⟩ := hrow.shape
    simp only [List.mem_singleton] at hu
    rw [hu, e]
    rfl
  · intro v' w' g1 g2 _
    refine h v' w' (ownII_snoc hown hrow hH g1 g2) ((Below.refl _ _).grown g2 hbase fun k hk => (World.ownsRow.lt h1 k hk).1) ?_
    refine (g2.block g (blk_lt hg) fun e => ?_).trans hg
    rcases h1.2 with ⟨hv, _⟩ | ⟨g', cap, cur, hv, _, hg', _⟩
    · rw [hv] at e; cases e
    · rw [hv] at e
      have e' : g = g' := by simpa [Value.ownBlock] using e
      subst e'
      rw [hg] at hg'
      simp only [Option.some.injEq, Obj.cells.injEq] at hg'
      exact ht hg'.2.1
end
theorem BoxB.keepB {w w1 w2 : World} {b B1 B2 : Nat} {s : Int} {v : Value} (h : BoxB w b s v) (h1 : Below B1 w w1) (hb1 : b < B1) (h2 : Below B2 w1 w2) (hb2 : b < B2) : BoxB w2 b s v := (h.below h1 hb1).below h2 hb2
set_option maxRecDepth 100000 in
set_option maxHeartbeats 16000000 in
theorem spec_all (S : Nat) (A : Option Addr) (n c : Nat) (f : Nat → Nat → Int) (B : Nat) (w : World) (hP : RowP 3 w B A n c f) (hB : B ≤ w.heap.size) (hO : blockOk S n f = true) :
    Calls Try.prog 65 #[.agg #[.int .i64 S, .slice A n c]] w fun e w' => ∃ A2 c2, e = .returned (.slice A2 (prs S f S).length c2) ∧ OwnII w' w.heap.size w'.heap.size (.slice A2 (prs S f S).length c2) (prs S f S).length (zOf (prs S f S)) ∧ Below w.heap.size w w' := by
  have hbk := block_of hO
  have s4 := hbk.s4
  have s1 := hbk.s1
  have hN := Lib.hid hbk.sq
  have HOK := Lib.hid hbk.ok
  have n16 := hbk.n16
  have HIN := Lib.hid (fun (y x : Nat) (hx : x < S) (hy : y < S) => (show y * S + x < n by have h1 := place_in hy hx; have h2 := hbk.sq; have h3 : ((S * S : Nat) : Int) = (S : Int) * (S : Int) := Int.natCast_mul S S; omega))
  clear hO hbk
  obtain ⟨b, off, rfl, hbB, hcx⟩ := hP.at_ (show 0 < n by omega)
  clear hcx
  obtain ⟨w1, hw1⟩ : ∃ w1, w1 = (w.alloc (.cells #[.int .i64 S, .slice (some ⟨b, off, none⟩) n c] 31)).alloc (.cells #[] 44) := ⟨_, rfl⟩
  have b1 : Below w.heap.size w w1 := by rw [hw1]; exact ((Below.refl _ _).alloc (Nat.le_refl _) _).alloc (by simp) _
  have x1 : BoxB w1 w.heap.size S (.slice (some ⟨b, off, none⟩) n c) := by rw [hw1]; exact ⟨by simp <;> omega, by go_simp, by go_simp⟩
  have o1 : OwnII w1 (w.heap.size + 1) w1.heap.size (.slice (some ⟨w.heap.size + 1, 0, none⟩) 0 0) 0 (zOf []) := by rw [hw1]; simpa using ownII_empty (w.alloc (.cells #[.int .i64 S, .slice (some ⟨b, off, none⟩) n c] 31)) (zOf [])
  go_enter Try.func65, Try.ntmps65
  go_wp2_with fail
  rw [← hw1]
  clear hw1
  go_loopw [3, 4, 5, 6, 7, 8, 9, 10] (fun v i _ _ _ _ _ _ wr => ∃ y : Nat, y ≤ S ∧ i = .int .i64 y ∧ OwnII wr (w.heap.size + 1) wr.heap.size v (prs S f y).length (zOf (prs S f y)) ∧ BoxB wr w.heap.size S (.slice (some ⟨b, off, none⟩) n c) ∧ Below w.heap.size w wr) (fun _ i _ _ _ _ _ _ _ => S - (intOf i).toNat)
  case atStart => exact ⟨0, by omega, rfl, o1, x1, b1⟩
  case round =>
    clear b1 x1 o1
    obtain ⟨y, hy, rfl, hown, hx, hb⟩ := hrel
    obtain ⟨xz, xc0, xc1⟩ := id hx
    by_cases hyl : y < S
    · have y0 : (0 : Int) ≤ (y : Int) := by omega
      have y3 : (y : Int) < (S : Int) := by omega
      go_wp2_with fail
      clear xc0 xc1 xz
      go_loopw [3, 5, 6, 7, 8, 9, 10] (fun v i _ _ _ _ _ wr => ∃ x : Nat, x ≤ S ∧ i = .int .i64 x ∧ OwnII wr (w.heap.size + 1) wr.heap.size v (prs S f y ++ prsRow S f y x).length (zOf (prs S f y ++ prsRow S f y x)) ∧ BoxB wr w.heap.size S (.slice (some ⟨b, off, none⟩) n c) ∧ Below w.heap.size w wr) (fun _ i _ _ _ _ _ _ => S - (intOf i).toNat)
      case atStart => exact ⟨0, by omega, rfl, by rw [show prs S f y ++ prsRow S f y 0 = prs S f y from List.append_nil _]; exact hown, hx, hb⟩
      case round =>
        clear hown hx hb
        obtain ⟨x, hxle, rfl, hown, hx, hb⟩ := hrel
        obtain ⟨xz, xc0, xc1⟩ := id hx
        by_cases hxl : x < S
        · have x0 : (0 : Int) ≤ (x : Int) := by omega
          have x3 : (x : Int) < (S : Int) := by omega
          obtain ⟨k, hk⟩ : ∃ k, k = y * S + x := ⟨_, rfl⟩
          have HK := Lib.hid hk
          have hkn : k < n := by rw [hk]; exact HIN.out _ _ hxl hyl
          obtain ⟨m, hm⟩ : ∃ m, m = y * S := ⟨_, rfl⟩
          rw [← hm] at hk
          have t1 : (y : Int) * (S : Int) = (m : Int) := by rw [hm]; exact (Int.natCast_mul y S).symm
          have t2 : IntKind.i64.wrap ((y : Int) * (S : Int)) = (m : Int) := by rw [t1]; exact IntWalk.i64_in _ (by omega)
          have t3 : (m : Int) + (x : Int) = (k : Int) := by omega
          have t4 : IntKind.i64.wrap ((m : Int) + (x : Int)) = (k : Int) := by rw [t3]; exact IntWalk.i64_in _ (by omega)
          have t5 : IntKind.i64.wrap (m : Int) = (m : Int) := IntWalk.i64_in _ (by omega)
          have t6 : IntKind.i64.wrap (k : Int) = (k : Int) := IntWalk.i64_in _ (by omega)
          have k0 : (0 : Int) ≤ (k : Int) := by omega
          have k3 : (k : Int) < (n : Int) := by omega
          clear hm hk
          obtain ⟨L0, hL0⟩ : ∃ L, L = prs S f y ++ prsRow S f y x := ⟨_, rfl⟩
          have HL0 := Lib.hid hL0
          rw [← hL0] at hown
          have HLEN := Lib.hid (show L0.length ≤ 60 by rw [hL0, List.length_append]; have e1 := prs_len S f y; have e2 := prsRow_len S f y x; have e3 := Nat.mul_le_mul (show S ≤ 4 by omega) (show y ≤ 4 by omega); omega)
          clear hL0
          have hPr : RowP 3 wr B (some ⟨b, off, none⟩) n c f := hP.keep fun p hp => hb.cell (by omega)
          obtain ⟨b2, off2, hA, hbB2, hc2⟩ := hPr.at_ hkn
          cases hA
          have z0_ : wr.cell? ⟨b, off + k * 3, none⟩ = some (.int .i64 (f k 0)) := by exact hc2 0 (by omega)
          have z1_ : wr.cell? ⟨b, off + k * 3 + 1, none⟩ = some (.int .i64 (f k 1)) := by rw [Nat.add_assoc]; exact hc2 1 (by omega)
          have z2_ : wr.cell? ⟨b, off + k * 3 + 2, none⟩ = some (.int .i64 (f k 2)) := by rw [Nat.add_assoc]; exact hc2 2 (by omega)
          obtain ⟨xn, hxn0⟩ : ∃ q, q = x + 1 := ⟨_, rfl⟩
          obtain ⟨yn, hyn0⟩ : ∃ q, q = y + 1 := ⟨_, rfl⟩
          have u1 : (x : Int) + 1 = (xn : Int) := by omega
          have u2 : IntKind.i64.wrap ((x : Int) + 1) = (xn : Int) := by rw [u1]; exact IntWalk.i64_in _ (by omega)
          have u3 : (y : Int) + 1 = (yn : Int) := by omega
          have u4 : IntKind.i64.wrap ((y : Int) + 1) = (yn : Int) := by rw [u3]; exact IntWalk.i64_in _ (by omega)
          have u5 : x + 1 ≤ xn := by omega
          have u6 : xn ≤ x + 1 := by omega
          have u7 : y + 1 ≤ yn := by omega
          have u8 : yn ≤ y + 1 := by omega
          have u9 : IntKind.i64.wrap (xn : Int) = (xn : Int) := IntWalk.i64_in _ (by omega)
          have u10 : IntKind.i64.wrap (yn : Int) = (yn : Int) := IntWalk.i64_in _ (by omega)
          have HX := Lib.hid hxn0
          have HY := Lib.hid hyn0
          clear hxn0 hyn0 hPr hc2
          go_upto_region 9 with fail
          obtain ⟨wa, hwa⟩ : ∃ wa, wa = wr.alloc (.cells #[.int .i64 (f k 0), .int .i64 (f k 1), .int .i64 (f k 2)] 56) := ⟨_, rfl⟩
          have GC0 : wa.heap[wr.heap.size]? = some (.cells #[.int .i64 (f k 0), .int .i64 (f k 1), .int .i64 (f k 2)] 56 (0, 0)) := by rw [hwa]; exact heap_alloc_new wr (.cells #[.int .i64 (f k 0), .int .i64 (f k 1), .int .i64 (f k 2)] 56)
          have zw3 : wr.heap.size < wa.heap.size := by rw [hwa]; simp
          have hown3 := (ownII_alloc hown (.cells #[.int .i64 (f k 0), .int .i64 (f k 1), .int .i64 (f k 2)] 56)).more (show wr.heap.size ≤ (wr.alloc (.cells #[.int .i64 (f k 0), .int .i64 (f k 1), .int .i64 (f k 2)] 56)).heap.size by simp)
          rw [← hwa] at hown3
          have hx3 : BoxB wa w.heap.size S (.slice (some ⟨b, off, none⟩) n c) := by rw [hwa]; exact hx.below ((Below.refl _ _).alloc (Nat.le_refl _) (.cells #[.int .i64 (f k 0), .int .i64 (f k 1), .int .i64 (f k 2)] 56)) hx.1
          have hb3 : Below w.heap.size w wa := by rw [hwa]; exact hb.alloc hb.size (.cells #[.int .i64 (f k 0), .int .i64 (f k 1), .int .i64 (f k 2)] 56)
          have zr := hb.size
          rw [← hwa]
          obtain ⟨gc, hgc⟩ : ∃ gc, gc = wr.heap.size := ⟨_, rfl⟩
          rw [← hgc] at GC0 zw3 zr ⊢
          clear hown hx hb hwa hgc xz xc0 xc1 z0_ z1_ z2_
          have hown := hown3
          have hx := hx3
          have hb := hb3
          have GC := GC0
          obtain ⟨xz, xc0, xc1⟩ := id hx
          have cc1 := blk_cell GC 1
          have cc2 := blk_cell GC 2
          simp only [List.getElem?_toArray, List.getElem?_cons_zero, List.getElem?_cons_succ] at cc1 cc2
          clear hown3 hx3 hb3 GC0
          rcases Nat.lt_or_ge xn S with hxn | hxn
          · have d1 : (xn : Int) < (S : Int) := by omega
            rcases Nat.lt_or_ge yn S with hyn | hyn
            · have d2 : (yn : Int) < (S : Int) := by omega
              have hlen := HLEN.out
              have zs_ := hb.size
              have hown2 := hown.congr (z' := zOf (L0 ++ [[f k 1, f k 2]])) (fun j hj => (zOf_l hj).symm)
              have hrow : OwnI (wa.alloc (.cells #[.int .i64 (f k 1), .int .i64 (f k 2)] 3)) wa.heap.size (.slice (some ⟨wa.heap.size, 0, none⟩) 2 2) (zOf (L0 ++ [[f k 1, f k 2]]) L0.length) := by rw [zOf_r]; exact own_pair wa _ _
              have G2 : ((wa.alloc (.cells #[.int .i64 (f k 1), .int .i64 (f k 2)] 3)).alloc (.cells #[.slice (some ⟨wa.heap.size, 0, none⟩) 2 2] 44)).heap[gc]? = some (.cells #[.int .i64 (f k 0), .int .i64 (f k 1), .int .i64 (f k 2)] 56 (0, 0)) := blk_alloc (blk_alloc GC _) _
              clear hown
              go_wp2_with (at_builtin; (refine appII_keep rfl _ _ rfl (w.heap.size + 1) wa.heap.size L0.length _ _ (zOf (L0 ++ [[f k 1, f k 2]])) (wa.heap.size + 1) gc _ _ G2 (by decide) rfl (ownII_alloc (ownII_alloc hown2 _) _) (hrow.alloc _) (by omega) rfl (by simpa using heap_alloc_new (wa.alloc (.cells #[.int .i64 (f k 1), .int .i64 (f k 2)] 3)) _) (by omega) (by simp; omega) ?_); intro v1 w4 hown hb4 G4; have hx5 := hx.keepB (((Below.refl _ wa).alloc (Nat.le_refl _) (.cells #[.int .i64 (f k 1), .int .i64 (f k 2)] 3)).alloc (by simp) (.cells #[.slice (some ⟨wa.heap.size, 0, none⟩) 2 2] 44)) (by omega) hb4 (by omega); obtain ⟨xz, xc0, xc1⟩ := id hx5)
              have hb5 := ((hb.alloc zs_ (.cells #[.int .i64 (f k 1), .int .i64 (f k 2)] 3)).alloc (by simp; omega) (.cells #[.slice (some ⟨wa.heap.size, 0, none⟩) 2 2] 44)).trans (hb4.mono (by omega))
              obtain ⟨L1, hL1⟩ : ∃ L, L = L0 ++ [[f k 1, f k 2]] := ⟨_, rfl⟩
              have HL1 := Lib.hid (show L1 = L0 ++ prs0 f k from hL1)
              have HLENs := Lib.hid (show L1.length ≤ 61 by rw [hL1, List.length_append]; have e1 := HLEN.out; have e2 : ([[f k 1, f k 2]] : List (List Int)).length = 1 := rfl; omega)
              have e5 : L0.length + 1 = L1.length := by rw [hL1]; simp
              rw [← hL1, e5] at hown
              clear hL1 e5 hrow hown2 G2 GC hb4 hb hx HLEN hlen zs_
              have HLEN := HLENs
              have GC := G4
              have hb := hb5
              have hx := hx5
              clear HLENs G4 hb5 hx5
              clear cc1 cc2
              obtain ⟨q, hq⟩ : ∃ q, q = k + 1 := ⟨_, rfl⟩
              have HQ := Lib.hid hq
              have hqn : q < n := by have e := HIN.out y xn hxn hyl; have e2 := HX.out; have e3 := HK.out; rw [e2] at e; omega
              have i1 : (k : Int) + 1 = (q : Int) := by omega
              have i2 : IntKind.i64.wrap ((k : Int) + 1) = (q : Int) := by rw [i1]; exact IntWalk.i64_in _ (by omega)
              have q0 : (0 : Int) ≤ (q : Int) := by omega
              have q3 : (q : Int) < (n : Int) := by omega
              have q4 : IntKind.i64.wrap (q : Int) = (q : Int) := IntWalk.i64_in _ (by omega)
              have zs_ := hb.size
              have hPs : RowP 3 w4 B (some ⟨b, off, none⟩) n c f := hP.keep fun p hp => hb.cell (by omega)
              obtain ⟨b2, off2, hA, hbB2, hc2⟩ := hPs.at_ hqn
              cases hA
              clear xz xc0 xc1
              have y0_ : w4.cell? ⟨b, off + q * 3, none⟩ = some (.int .i64 (f q 0)) := by exact hc2 0 (by omega)
              have y1_ : w4.cell? ⟨b, off + q * 3 + 1, none⟩ = some (.int .i64 (f q 1)) := by rw [Nat.add_assoc]; exact hc2 1 (by omega)
              have y2_ : w4.cell? ⟨b, off + q * 3 + 2, none⟩ = some (.int .i64 (f q 2)) := by rw [Nat.add_assoc]; exact hc2 2 (by omega)
              obtain ⟨xz, xc0, xc1⟩ := id hx
              have zg := blk_lt GC
              have cc0 := blk_cell GC 0
              have cc1 := blk_cell GC 1
              have cc2 := blk_cell GC 2
              simp only [List.getElem?_toArray, List.getElem?_cons_zero, List.getElem?_cons_succ] at cc0 cc1 cc2
              clear hc2 hPs hq
              go_wp2_with fail
              go_region_held3 (fun w' => w'.cell? ⟨w.heap.size, 0, none⟩ = some (.int .i64 S) ∧ w'.cell? ⟨w.heap.size, 1, none⟩ = some (.slice (some ⟨b, off, none⟩) n c) ∧ w'.cell? ⟨gc, 0, none⟩ = some (.int .i64 (f k 0)) ∧ w'.cell? ⟨gc, 1, none⟩ = some (.int .i64 (f k 1)) ∧ w'.cell? ⟨gc, 2, none⟩ = some (.int .i64 (f k 2)) ∧ w'.cell? ⟨b, off + q * 3, none⟩ = some (.int .i64 (f q 0)) ∧ w'.cell? ⟨b, off + q * 3 + 1, none⟩ = some (.int .i64 (f q 1)) ∧ w'.cell? ⟨b, off + q * 3 + 2, none⟩ = some (.int .i64 (f q 2))) (first | go_keep | (exact ⟨s0, s1, s2, s3, s4, s5, s6, s7⟩)) (first
                | (go_at_call 95; refine Calls.mono (spec_sides (f k) (f q) true _) ?_; rintro e ws1 ⟨rfl, hbc1⟩; replace hbc1 := below_drew hbc1; obtain ⟨hcc1, hfc1⟩ := bcell hbc1; have zc1 := hbc1.size; have s0 := (hcc1 w.heap.size 0 (by omega)).trans xc0; have s1 := (hcc1 w.heap.size 1 (by omega)).trans xc1; have s2 := (hcc1 gc 0 (by omega)).trans cc0; have s3 := (hcc1 gc 1 (by omega)).trans cc1; have s4 := (hcc1 gc 2 (by omega)).trans cc2; have s5 := (hcc1 b _ (by omega)).trans y0_; have s6 := (hcc1 b _ (by omega)).trans y1_; have s7 := (hcc1 b _ (by omega)).trans y2_; clear hcc1 hfc1))
              have hown5 := (hown.keep hbc1).more zc1
              have hx5 := hx.below hbc1 xz
              have hb5 := hb.trans (hbc1.mono zs_)
              have G5 := blk_below GC hbc1 zg
              clear hown hx hb GC s0 s1 s2 s3 s4 s5 s6 s7 xz xc0 xc1 cc0 cc1 cc2 y0_ y1_ y2_ zs_ hbc1
              have hown := hown5
              have hx := hx5
              have hb := hb5
              have GC := G5
              clear hown5 hx5 hb5 G5
              have hlen := HLEN.out
              have zs_ := hb.size
              have hown2 := hown.congr (z' := zOf (L1 ++ [[colorAt (f k) 2, colorAt (f q) 0]])) (fun j hj => (zOf_l hj).symm)
              have hrow : OwnI (ws1.alloc (.cells #[.int .i64 (colorAt (f k) 2), .int .i64 (colorAt (f q) 0)] 3)) ws1.heap.size (.slice (some ⟨ws1.heap.size, 0, none⟩) 2 2) (zOf (L1 ++ [[colorAt (f k) 2, colorAt (f q) 0]]) L1.length) := by rw [zOf_r]; exact own_pair ws1 _ _
              have G2 : ((ws1.alloc (.cells #[.int .i64 (colorAt (f k) 2), .int .i64 (colorAt (f q) 0)] 3)).alloc (.cells #[.slice (some ⟨ws1.heap.size, 0, none⟩) 2 2] 44)).heap[gc]? = some (.cells #[.int .i64 (f k 0), .int .i64 (f k 1), .int .i64 (f k 2)] 56 (0, 0)) := blk_alloc (blk_alloc GC _) _
              clear hown
              go_wp2_with (at_builtin; (refine appII_keep rfl _ _ rfl (w.heap.size + 1) ws1.heap.size L1.length _ _ (zOf (L1 ++ [[colorAt (f k) 2, colorAt (f q) 0]])) (ws1.heap.size + 1) gc _ _ G2 (by decide) rfl (ownII_alloc (ownII_alloc hown2 _) _) (hrow.alloc _) (by omega) rfl (by simpa using heap_alloc_new (ws1.alloc (.cells #[.int .i64 (colorAt (f k) 2), .int .i64 (colorAt (f q) 0)] 3)) _) (by omega) (by simp; omega) ?_); intro v2 wt1 hown hb4 G4; have hx5 := hx.keepB (((Below.refl _ ws1).alloc (Nat.le_refl _) (.cells #[.int .i64 (colorAt (f k) 2), .int .i64 (colorAt (f q) 0)] 3)).alloc (by simp) (.cells #[.slice (some ⟨ws1.heap.size, 0, none⟩) 2 2] 44)) (by omega) hb4 (by omega); obtain ⟨xz, xc0, xc1⟩ := id hx5)
              have hb5 := ((hb.alloc zs_ (.cells #[.int .i64 (colorAt (f k) 2), .int .i64 (colorAt (f q) 0)] 3)).alloc (by simp; omega) (.cells #[.slice (some ⟨ws1.heap.size, 0, none⟩) 2 2] 44)).trans (hb4.mono (by omega))
              obtain ⟨L2, hL2⟩ : ∃ L, L = L1 ++ [[colorAt (f k) 2, colorAt (f q) 0]] := ⟨_, rfl⟩
              have HL2 := Lib.hid (show L2 = L1 ++ prsR f k by rw [hL2, HQ.out]; rfl)
              have HLENs := Lib.hid (show L2.length ≤ 62 by rw [hL2, List.length_append]; have e1 := HLEN.out; have e2 : ([[colorAt (f k) 2, colorAt (f q) 0]] : List (List Int)).length = 1 := rfl; omega)
              have e5 : L1.length + 1 = L2.length := by rw [hL2]; simp
              rw [← hL2, e5] at hown
              clear hL2 e5 hrow hown2 G2 GC hb4 hb hx HLEN hlen zs_
              have HLEN := HLENs
              have GC := G4
              have hb := hb5
              have hx := hx5
              clear HLENs G4 hb5 hx5
              obtain ⟨q, hq⟩ : ∃ q, q = k + S := ⟨_, rfl⟩
              have HQ := Lib.hid hq
              obtain ⟨mn, hmn⟩ : ∃ q, q = yn * S := ⟨_, rfl⟩
              have hmn2 : mn + x = q := by have e2 := HY.out; have e3 := HK.out; rw [hmn, e2, Nat.succ_mul]; omega
              have hqn : q < n := by have e := HIN.out yn x hxl hyn; rw [← hmn] at e; omega
              have i1 : (yn : Int) * (S : Int) = (mn : Int) := by rw [hmn]; exact (Int.natCast_mul yn S).symm
              have i2 : IntKind.i64.wrap ((yn : Int) * (S : Int)) = (mn : Int) := by rw [i1]; exact IntWalk.i64_in _ (by omega)
              have i3 : (mn : Int) + (x : Int) = (q : Int) := by omega
              have i4 : IntKind.i64.wrap ((mn : Int) + (x : Int)) = (q : Int) := by rw [i3]; exact IntWalk.i64_in _ (by omega)
              have i5 : IntKind.i64.wrap (mn : Int) = (mn : Int) := IntWalk.i64_in _ (by omega)
              clear hmn hmn2
              have q0 : (0 : Int) ≤ (q : Int) := by omega
              have q3 : (q : Int) < (n : Int) := by omega
              have q4 : IntKind.i64.wrap (q : Int) = (q : Int) := IntWalk.i64_in _ (by omega)
              have zs_ := hb.size
              have hPs : RowP 3 wt1 B (some ⟨b, off, none⟩) n c f := hP.keep fun p hp => hb.cell (by omega)
              obtain ⟨b2, off2, hA, hbB2, hc2⟩ := hPs.at_ hqn
              cases hA
              clear xz xc0 xc1
              have y0_ : wt1.cell? ⟨b, off + q * 3, none⟩ = some (.int .i64 (f q 0)) := by exact hc2 0 (by omega)
              have y1_ : wt1.cell? ⟨b, off + q * 3 + 1, none⟩ = some (.int .i64 (f q 1)) := by rw [Nat.add_assoc]; exact hc2 1 (by omega)
              have y2_ : wt1.cell? ⟨b, off + q * 3 + 2, none⟩ = some (.int .i64 (f q 2)) := by rw [Nat.add_assoc]; exact hc2 2 (by omega)
              obtain ⟨xz, xc0, xc1⟩ := id hx
              have zg := blk_lt GC
              have cc0 := blk_cell GC 0
              have cc1 := blk_cell GC 1
              have cc2 := blk_cell GC 2
              simp only [List.getElem?_toArray, List.getElem?_cons_zero, List.getElem?_cons_succ] at cc0 cc1 cc2
              clear hc2 hPs hq
              go_wp2_with fail
              go_region_held3 (fun w' => w'.cell? ⟨w.heap.size, 0, none⟩ = some (.int .i64 S) ∧ w'.cell? ⟨w.heap.size, 1, none⟩ = some (.slice (some ⟨b, off, none⟩) n c) ∧ w'.cell? ⟨gc, 0, none⟩ = some (.int .i64 (f k 0)) ∧ w'.cell? ⟨gc, 1, none⟩ = some (.int .i64 (f k 1)) ∧ w'.cell? ⟨gc, 2, none⟩ = some (.int .i64 (f k 2)) ∧ w'.cell? ⟨b, off + q * 3, none⟩ = some (.int .i64 (f q 0)) ∧ w'.cell? ⟨b, off + q * 3 + 1, none⟩ = some (.int .i64 (f q 1)) ∧ w'.cell? ⟨b, off + q * 3 + 2, none⟩ = some (.int .i64 (f q 2))) (first | go_keep | (exact ⟨s0, s1, s2, s3, s4, s5, s6, s7⟩)) (first
                | (go_at_call 95; refine Calls.mono (spec_sides (f k) (f q) false _) ?_; rintro e ws2 ⟨rfl, hbc1⟩; replace hbc1 := below_drew hbc1; obtain ⟨hcc1, hfc1⟩ := bcell hbc1; have zc1 := hbc1.size; have s0 := (hcc1 w.heap.size 0 (by omega)).trans xc0; have s1 := (hcc1 w.heap.size 1 (by omega)).trans xc1; have s2 := (hcc1 gc 0 (by omega)).trans cc0; have s3 := (hcc1 gc 1 (by omega)).trans cc1; have s4 := (hcc1 gc 2 (by omega)).trans cc2; have s5 := (hcc1 b _ (by omega)).trans y0_; have s6 := (hcc1 b _ (by omega)).trans y1_; have s7 := (hcc1 b _ (by omega)).trans y2_; clear hcc1 hfc1))
              have hown5 := (hown.keep hbc1).more zc1
              have hx5 := hx.below hbc1 xz
              have hb5 := hb.trans (hbc1.mono zs_)
              have G5 := blk_below GC hbc1 zg
              clear hown hx hb GC s0 s1 s2 s3 s4 s5 s6 s7 xz xc0 xc1 cc0 cc1 cc2 y0_ y1_ y2_ zs_ hbc1
              have hown := hown5
              have hx := hx5
              have hb := hb5
              have GC := G5
              clear hown5 hx5 hb5 G5
              have hlen := HLEN.out
              have zs_ := hb.size
              have hown2 := hown.congr (z' := zOf (L2 ++ [[colorAt (f k) 3, colorAt (f q) 1]])) (fun j hj => (zOf_l hj).symm)
              have hrow : OwnI (ws2.alloc (.cells #[.int .i64 (colorAt (f k) 3), .int .i64 (colorAt (f q) 1)] 3)) ws2.heap.size (.slice (some ⟨ws2.heap.size, 0, none⟩) 2 2) (zOf (L2 ++ [[colorAt (f k) 3, colorAt (f q) 1]]) L2.length) := by rw [zOf_r]; exact own_pair ws2 _ _
              have G2 : ((ws2.alloc (.cells #[.int .i64 (colorAt (f k) 3), .int .i64 (colorAt (f q) 1)] 3)).alloc (.cells #[.slice (some ⟨ws2.heap.size, 0, none⟩) 2 2] 44)).heap[gc]? = some (.cells #[.int .i64 (f k 0), .int .i64 (f k 1), .int .i64 (f k 2)] 56 (0, 0)) := blk_alloc (blk_alloc GC _) _
              clear hown
              go_wp2_with (at_builtin; (refine appII_keep rfl _ _ rfl (w.heap.size + 1) ws2.heap.size L2.length _ _ (zOf (L2 ++ [[colorAt (f k) 3, colorAt (f q) 1]])) (ws2.heap.size + 1) gc _ _ G2 (by decide) rfl (ownII_alloc (ownII_alloc hown2 _) _) (hrow.alloc _) (by omega) rfl (by simpa using heap_alloc_new (ws2.alloc (.cells #[.int .i64 (colorAt (f k) 3), .int .i64 (colorAt (f q) 1)] 3)) _) (by omega) (by simp; omega) ?_); intro v3 wt2 hown hb4 G4; have hx5 := hx.keepB (((Below.refl _ ws2).alloc (Nat.le_refl _) (.cells #[.int .i64 (colorAt (f k) 3), .int .i64 (colorAt (f q) 1)] 3)).alloc (by simp) (.cells #[.slice (some ⟨ws2.heap.size, 0, none⟩) 2 2] 44)) (by omega) hb4 (by omega); obtain ⟨xz, xc0, xc1⟩ := id hx5)
              have hb5 := ((hb.alloc zs_ (.cells #[.int .i64 (colorAt (f k) 3), .int .i64 (colorAt (f q) 1)] 3)).alloc (by simp; omega) (.cells #[.slice (some ⟨ws2.heap.size, 0, none⟩) 2 2] 44)).trans (hb4.mono (by omega))
              obtain ⟨L3, hL3⟩ : ∃ L, L = L2 ++ [[colorAt (f k) 3, colorAt (f q) 1]] := ⟨_, rfl⟩
              have HL3 := Lib.hid (show L3 = L2 ++ prsB S f k by rw [hL3, HQ.out]; rfl)
              have HLENs := Lib.hid (show L3.length ≤ 63 by rw [hL3, List.length_append]; have e1 := HLEN.out; have e2 : ([[colorAt (f k) 3, colorAt (f q) 1]] : List (List Int)).length = 1 := rfl; omega)
              have e5 : L2.length + 1 = L3.length := by rw [hL3]; simp
              rw [← hL3, e5] at hown
              clear hL3 e5 hrow hown2 G2 GC hb4 hb hx HLEN hlen zs_
              have HLEN := HLENs
              have GC := G4
              have hb := hb5
              have hx := hx5
              clear HLENs G4 hb5 hx5
              have HF := Lib.hid (show prs S f y ++ prsRow S f y xn = L3 by rw [HX.out, show prsRow S f y (x + 1) = prsRow S f y x ++ prsAt S f y x from rfl]; unfold prsAt; rw [← HK.out, if_pos (show x + 1 < S by have e := HX.out; omega), if_pos (show y + 1 < S by have e := HY.out; omega), HL3.out, HL2.out, HL1.out, HL0.out]; simp [List.append_assoc])
              rw [← HF.out] at hown
              obtain ⟨xz, xc0, xc1⟩ := id hx
              clear GC
              try go_wp2
              go_roundw
              case rel => exact ⟨xn, by omega, by first | rfl | go_num, hown, hx, hb⟩
              case measure => simp [intOf]; omega
            · have d2 : ¬ (yn : Int) < (S : Int) := by omega
              have hlen := HLEN.out
              have zs_ := hb.size
              have hown2 := hown.congr (z' := zOf (L0 ++ [[f k 1, f k 2]])) (fun j hj => (zOf_l hj).symm)
              have hrow : OwnI (wa.alloc (.cells #[.int .i64 (f k 1), .int .i64 (f k 2)] 3)) wa.heap.size (.slice (some ⟨wa.heap.size, 0, none⟩) 2 2) (zOf (L0 ++ [[f k 1, f k 2]]) L0.length) := by rw [zOf_r]; exact own_pair wa _ _
              have G2 : ((wa.alloc (.cells #[.int .i64 (f k 1), .int .i64 (f k 2)] 3)).alloc (.cells #[.slice (some ⟨wa.heap.size, 0, none⟩) 2 2] 44)).heap[gc]? = some (.cells #[.int .i64 (f k 0), .int .i64 (f k 1), .int .i64 (f k 2)] 56 (0, 0)) := blk_alloc (blk_alloc GC _) _
              clear hown
              go_wp2_with (at_builtin; (refine appII_keep rfl _ _ rfl (w.heap.size + 1) wa.heap.size L0.length _ _ (zOf (L0 ++ [[f k 1, f k 2]])) (wa.heap.size + 1) gc _ _ G2 (by decide) rfl (ownII_alloc (ownII_alloc hown2 _) _) (hrow.alloc _) (by omega) rfl (by simpa using heap_alloc_new (wa.alloc (.cells #[.int .i64 (f k 1), .int .i64 (f k 2)] 3)) _) (by omega) (by simp; omega) ?_); intro v1 w4 hown hb4 G4; have hx5 := hx.keepB (((Below.refl _ wa).alloc (Nat.le_refl _) (.cells #[.int .i64 (f k 1), .int .i64 (f k 2)] 3)).alloc (by simp) (.cells #[.slice (some ⟨wa.heap.size, 0, none⟩) 2 2] 44)) (by omega) hb4 (by omega); obtain ⟨xz, xc0, xc1⟩ := id hx5)
              have hb5 := ((hb.alloc zs_ (.cells #[.int .i64 (f k 1), .int .i64 (f k 2)] 3)).alloc (by simp; omega) (.cells #[.slice (some ⟨wa.heap.size, 0, none⟩) 2 2] 44)).trans (hb4.mono (by omega))
              obtain ⟨L1, hL1⟩ : ∃ L, L = L0 ++ [[f k 1, f k 2]] := ⟨_, rfl⟩
              have HL1 := Lib.hid (show L1 = L0 ++ prs0 f k from hL1)
              have HLENs := Lib.hid (show L1.length ≤ 61 by rw [hL1, List.length_append]; have e1 := HLEN.out; have e2 : ([[f k 1, f k 2]] : List (List Int)).length = 1 := rfl; omega)
              have e5 : L0.length + 1 = L1.length := by rw [hL1]; simp
              rw [← hL1, e5] at hown
              clear hL1 e5 hrow hown2 G2 GC hb4 hb hx HLEN hlen zs_
              have HLEN := HLENs
              have GC := G4
              have hb := hb5
              have hx := hx5
              clear HLENs G4 hb5 hx5
              clear cc1 cc2
              obtain ⟨q, hq⟩ : ∃ q, q = k + 1 := ⟨_, rfl⟩
              have HQ := Lib.hid hq
              have hqn : q < n := by have e := HIN.out y xn hxn hyl; have e2 := HX.out; have e3 := HK.out; rw [e2] at e; omega
              have i1 : (k : Int) + 1 = (q : Int) := by omega
              have i2 : IntKind.i64.wrap ((k : Int) + 1) = (q : Int) := by rw [i1]; exact IntWalk.i64_in _ (by omega)
              have q0 : (0 : Int) ≤ (q : Int) := by omega
              have q3 : (q : Int) < (n : Int) := by omega
              have q4 : IntKind.i64.wrap (q : Int) = (q : Int) := IntWalk.i64_in _ (by omega)
              have zs_ := hb.size
              have hPs : RowP 3 w4 B (some ⟨b, off, none⟩) n c f := hP.keep fun p hp => hb.cell (by omega)
              obtain ⟨b2, off2, hA, hbB2, hc2⟩ := hPs.at_ hqn
              cases hA
              clear xz xc0 xc1
              have y0_ : w4.cell? ⟨b, off + q * 3, none⟩ = some (.int .i64 (f q 0)) := by exact hc2 0 (by omega)
              have y1_ : w4.cell? ⟨b, off + q * 3 + 1, none⟩ = some (.int .i64 (f q 1)) := by rw [Nat.add_assoc]; exact hc2 1 (by omega)
              have y2_ : w4.cell? ⟨b, off + q * 3 + 2, none⟩ = some (.int .i64 (f q 2)) := by rw [Nat.add_assoc]; exact hc2 2 (by omega)
              obtain ⟨xz, xc0, xc1⟩ := id hx
              have zg := blk_lt GC
              have cc0 := blk_cell GC 0
              have cc1 := blk_cell GC 1
              have cc2 := blk_cell GC 2
              simp only [List.getElem?_toArray, List.getElem?_cons_zero, List.getElem?_cons_succ] at cc0 cc1 cc2
              clear hc2 hPs hq
              go_wp2_with fail
              go_region_held3 (fun w' => w'.cell? ⟨w.heap.size, 0, none⟩ = some (.int .i64 S) ∧ w'.cell? ⟨w.heap.size, 1, none⟩ = some (.slice (some ⟨b, off, none⟩) n c) ∧ w'.cell? ⟨gc, 0, none⟩ = some (.int .i64 (f k 0)) ∧ w'.cell? ⟨gc, 1, none⟩ = some (.int .i64 (f k 1)) ∧ w'.cell? ⟨gc, 2, none⟩ = some (.int .i64 (f k 2)) ∧ w'.cell? ⟨b, off + q * 3, none⟩ = some (.int .i64 (f q 0)) ∧ w'.cell? ⟨b, off + q * 3 + 1, none⟩ = some (.int .i64 (f q 1)) ∧ w'.cell? ⟨b, off + q * 3 + 2, none⟩ = some (.int .i64 (f q 2))) (first | go_keep | (exact ⟨s0, s1, s2, s3, s4, s5, s6, s7⟩)) (first
                | (go_at_call 95; refine Calls.mono (spec_sides (f k) (f q) true _) ?_; rintro e ws1 ⟨rfl, hbc1⟩; replace hbc1 := below_drew hbc1; obtain ⟨hcc1, hfc1⟩ := bcell hbc1; have zc1 := hbc1.size; have s0 := (hcc1 w.heap.size 0 (by omega)).trans xc0; have s1 := (hcc1 w.heap.size 1 (by omega)).trans xc1; have s2 := (hcc1 gc 0 (by omega)).trans cc0; have s3 := (hcc1 gc 1 (by omega)).trans cc1; have s4 := (hcc1 gc 2 (by omega)).trans cc2; have s5 := (hcc1 b _ (by omega)).trans y0_; have s6 := (hcc1 b _ (by omega)).trans y1_; have s7 := (hcc1 b _ (by omega)).trans y2_; clear hcc1 hfc1))
              have hown5 := (hown.keep hbc1).more zc1
              have hx5 := hx.below hbc1 xz
              have hb5 := hb.trans (hbc1.mono zs_)
              have G5 := blk_below GC hbc1 zg
              clear hown hx hb GC s0 s1 s2 s3 s4 s5 s6 s7 xz xc0 xc1 cc0 cc1 cc2 y0_ y1_ y2_ zs_ hbc1
              have hown := hown5
              have hx := hx5
              have hb := hb5
              have GC := G5
              clear hown5 hx5 hb5 G5
              have hlen := HLEN.out
              have zs_ := hb.size
              have hown2 := hown.congr (z' := zOf (L1 ++ [[colorAt (f k) 2, colorAt (f q) 0]])) (fun j hj => (zOf_l hj).symm)
              have hrow : OwnI (ws1.alloc (.cells #[.int .i64 (colorAt (f k) 2), .int .i64 (colorAt (f q) 0)] 3)) ws1.heap.size (.slice (some ⟨ws1.heap.size, 0, none⟩) 2 2) (zOf (L1 ++ [[colorAt (f k) 2, colorAt (f q) 0]]) L1.length) := by rw [zOf_r]; exact own_pair ws1 _ _
              have G2 : ((ws1.alloc (.cells #[.int .i64 (colorAt (f k) 2), .int .i64 (colorAt (f q) 0)] 3)).alloc (.cells #[.slice (some ⟨ws1.heap.size, 0, none⟩) 2 2] 44)).heap[gc]? = some (.cells #[.int .i64 (f k 0), .int .i64 (f k 1), .int .i64 (f k 2)] 56 (0, 0)) := blk_alloc (blk_alloc GC _) _
              clear hown
              go_wp2_with (at_builtin; (refine appII_keep rfl _ _ rfl (w.heap.size + 1) ws1.heap.size L1.length _ _ (zOf (L1 ++ [[colorAt (f k) 2, colorAt (f q) 0]])) (ws1.heap.size + 1) gc _ _ G2 (by decide) rfl (ownII_alloc (ownII_alloc hown2 _) _) (hrow.alloc _) (by omega) rfl (by simpa using heap_alloc_new (ws1.alloc (.cells #[.int .i64 (colorAt (f k) 2), .int .i64 (colorAt (f q) 0)] 3)) _) (by omega) (by simp; omega) ?_); intro v2 wt1 hown hb4 G4; have hx5 := hx.keepB (((Below.refl _ ws1).alloc (Nat.le_refl _) (.cells #[.int .i64 (colorAt (f k) 2), .int .i64 (colorAt (f q) 0)] 3)).alloc (by simp) (.cells #[.slice (some ⟨ws1.heap.size, 0, none⟩) 2 2] 44)) (by omega) hb4 (by omega); obtain ⟨xz, xc0, xc1⟩ := id hx5)
              have hb5 := ((hb.alloc zs_ (.cells #[.int .i64 (colorAt (f k) 2), .int .i64 (colorAt (f q) 0)] 3)).alloc (by simp; omega) (.cells #[.slice (some ⟨ws1.heap.size, 0, none⟩) 2 2] 44)).trans (hb4.mono (by omega))
              obtain ⟨L2, hL2⟩ : ∃ L, L = L1 ++ [[colorAt (f k) 2, colorAt (f q) 0]] := ⟨_, rfl⟩
              have HL2 := Lib.hid (show L2 = L1 ++ prsR f k by rw [hL2, HQ.out]; rfl)
              have HLENs := Lib.hid (show L2.length ≤ 62 by rw [hL2, List.length_append]; have e1 := HLEN.out; have e2 : ([[colorAt (f k) 2, colorAt (f q) 0]] : List (List Int)).length = 1 := rfl; omega)
              have e5 : L1.length + 1 = L2.length := by rw [hL2]; simp
              rw [← hL2, e5] at hown
              clear hL2 e5 hrow hown2 G2 GC hb4 hb hx HLEN hlen zs_
              have HLEN := HLENs
              have GC := G4
              have hb := hb5
              have hx := hx5
              clear HLENs G4 hb5 hx5
              have HF := Lib.hid (show prs S f y ++ prsRow S f y xn = L2 by rw [HX.out, show prsRow S f y (x + 1) = prsRow S f y x ++ prsAt S f y x from rfl]; unfold prsAt; rw [← HK.out, if_pos (show x + 1 < S by have e := HX.out; omega), if_neg (show ¬ y + 1 < S by have e := HY.out; omega), HL2.out, HL1.out, HL0.out]; simp [List.append_assoc])
              rw [← HF.out] at hown
              obtain ⟨xz, xc0, xc1⟩ := id hx
              clear GC
              try go_wp2
              go_roundw
              case rel => exact ⟨xn, by omega, by first | rfl | go_num, hown, hx, hb⟩
              case measure => simp [intOf]; omega
          · have d1 : ¬ (xn : Int) < (S : Int) := by omega
            rcases Nat.lt_or_ge yn S with hyn | hyn
            · have d2 : (yn : Int) < (S : Int) := by omega
              have hlen := HLEN.out
              have zs_ := hb.size
              have hown2 := hown.congr (z' := zOf (L0 ++ [[f k 1, f k 2]])) (fun j hj => (zOf_l hj).symm)
              have hrow : OwnI (wa.alloc (.cells #[.int .i64 (f k 1), .int .i64 (f k 2)] 3)) wa.heap.size (.slice (some ⟨wa.heap.size, 0, none⟩) 2 2) (zOf (L0 ++ [[f k 1, f k 2]]) L0.length) := by rw [zOf_r]; exact own_pair wa _ _
              have G2 : ((wa.alloc (.cells #[.int .i64 (f k 1), .int .i64 (f k 2)] 3)).alloc (.cells #[.slice (some ⟨wa.heap.size, 0, none⟩) 2 2] 44)).heap[gc]? = some (.cells #[.int .i64 (f k 0), .int .i64 (f k 1), .int .i64 (f k 2)] 56 (0, 0)) := blk_alloc (blk_alloc GC _) _
              clear hown
              go_wp2_with (at_builtin; (refine appII_keep rfl _ _ rfl (w.heap.size + 1) wa.heap.size L0.length _ _ (zOf (L0 ++ [[f k 1, f k 2]])) (wa.heap.size + 1) gc _ _ G2 (by decide) rfl (ownII_alloc (ownII_alloc hown2 _) _) (hrow.alloc _) (by omega) rfl (by simpa using heap_alloc_new (wa.alloc (.cells #[.int .i64 (f k 1), .int .i64 (f k 2)] 3)) _) (by omega) (by simp; omega) ?_); intro v1 w4 hown hb4 G4; have hx5 := hx.keepB (((Below.refl _ wa).alloc (Nat.le_refl _) (.cells #[.int .i64 (f k 1), .int .i64 (f k 2)] 3)).alloc (by simp) (.cells #[.slice (some ⟨wa.heap.size, 0, none⟩) 2 2] 44)) (by omega) hb4 (by omega); obtain ⟨xz, xc0, xc1⟩ := id hx5)
              have hb5 := ((hb.alloc zs_ (.cells #[.int .i64 (f k 1), .int .i64 (f k 2)] 3)).alloc (by simp; omega) (.cells #[.slice (some ⟨wa.heap.size, 0, none⟩) 2 2] 44)).trans (hb4.mono (by omega))
              obtain ⟨L1, hL1⟩ : ∃ L, L = L0 ++ [[f k 1, f k 2]] := ⟨_, rfl⟩
              have HL1 := Lib.hid (show L1 = L0 ++ prs0 f k from hL1)
              have HLENs := Lib.hid (show L1.length ≤ 61 by rw [hL1, List.length_append]; have e1 := HLEN.out; have e2 : ([[f k 1, f k 2]] : List (List Int)).length = 1 := rfl; omega)
              have e5 : L0.length + 1 = L1.length := by rw [hL1]; simp
              rw [← hL1, e5] at hown
              clear hL1 e5 hrow hown2 G2 GC hb4 hb hx HLEN hlen zs_
              have HLEN := HLENs
              have GC := G4
              have hb := hb5
              have hx := hx5
              clear HLENs G4 hb5 hx5
              clear cc1 cc2
              obtain ⟨q, hq⟩ : ∃ q, q = k + S := ⟨_, rfl⟩
              have HQ := Lib.hid hq
              obtain ⟨mn, hmn⟩ : ∃ q, q = yn * S := ⟨_, rfl⟩
              have hmn2 : mn + x = q := by have e2 := HY.out; have e3 := HK.out; rw [hmn, e2, Nat.succ_mul]; omega
              have hqn : q < n := by have e := HIN.out yn x hxl hyn; rw [← hmn] at e; omega
              have i1 : (yn : Int) * (S : Int) = (mn : Int) := by rw [hmn]; exact (Int.natCast_mul yn S).symm
              have i2 : IntKind.i64.wrap ((yn : Int) * (S : Int)) = (mn : Int) := by rw [i1]; exact IntWalk.i64_in _ (by omega)
              have i3 : (mn : Int) + (x : Int) = (q : Int) := by omega
              have i4 : IntKind.i64.wrap ((mn : Int) + (x : Int)) = (q : Int) := by rw [i3]; exact IntWalk.i64_in _ (by omega)
              have i5 : IntKind.i64.wrap (mn : Int) = (mn : Int) := IntWalk.i64_in _ (by omega)
              clear hmn hmn2
              have q0 : (0 : Int) ≤ (q : Int) := by omega
              have q3 : (q : Int) < (n : Int) := by omega
              have q4 : IntKind.i64.wrap (q : Int) = (q : Int) := IntWalk.i64_in _ (by omega)
              have zs_ := hb.size
              have hPs : RowP 3 w4 B (some ⟨b, off, none⟩) n c f := hP.keep fun p hp => hb.cell (by omega)
              obtain ⟨b2, off2, hA, hbB2, hc2⟩ := hPs.at_ hqn
              cases hA
              clear xz xc0 xc1
              have y0_ : w4.cell? ⟨b, off + q * 3, none⟩ = some (.int .i64 (f q 0)) := by exact hc2 0 (by omega)
              have y1_ : w4.cell? ⟨b, off + q * 3 + 1, none⟩ = some (.int .i64 (f q 1)) := by rw [Nat.add_assoc]; exact hc2 1 (by omega)
              have y2_ : w4.cell? ⟨b, off + q * 3 + 2, none⟩ = some (.int .i64 (f q 2)) := by rw [Nat.add_assoc]; exact hc2 2 (by omega)
              obtain ⟨xz, xc0, xc1⟩ := id hx
              have zg := blk_lt GC
              have cc0 := blk_cell GC 0
              have cc1 := blk_cell GC 1
              have cc2 := blk_cell GC 2
              simp only [List.getElem?_toArray, List.getElem?_cons_zero, List.getElem?_cons_succ] at cc0 cc1 cc2
              clear hc2 hPs hq
              go_wp2_with fail
              go_region_held3 (fun w' => w'.cell? ⟨w.heap.size, 0, none⟩ = some (.int .i64 S) ∧ w'.cell? ⟨w.heap.size, 1, none⟩ = some (.slice (some ⟨b, off, none⟩) n c) ∧ w'.cell? ⟨gc, 0, none⟩ = some (.int .i64 (f k 0)) ∧ w'.cell? ⟨gc, 1, none⟩ = some (.int .i64 (f k 1)) ∧ w'.cell? ⟨gc, 2, none⟩ = some (.int .i64 (f k 2)) ∧ w'.cell? ⟨b, off + q * 3, none⟩ = some (.int .i64 (f q 0)) ∧ w'.cell? ⟨b, off + q * 3 + 1, none⟩ = some (.int .i64 (f q 1)) ∧ w'.cell? ⟨b, off + q * 3 + 2, none⟩ = some (.int .i64 (f q 2))) (first | go_keep | (exact ⟨s0, s1, s2, s3, s4, s5, s6, s7⟩)) (first
                | (go_at_call 95; refine Calls.mono (spec_sides (f k) (f q) false _) ?_; rintro e ws1 ⟨rfl, hbc1⟩; replace hbc1 := below_drew hbc1; obtain ⟨hcc1, hfc1⟩ := bcell hbc1; have zc1 := hbc1.size; have s0 := (hcc1 w.heap.size 0 (by omega)).trans xc0; have s1 := (hcc1 w.heap.size 1 (by omega)).trans xc1; have s2 := (hcc1 gc 0 (by omega)).trans cc0; have s3 := (hcc1 gc 1 (by omega)).trans cc1; have s4 := (hcc1 gc 2 (by omega)).trans cc2; have s5 := (hcc1 b _ (by omega)).trans y0_; have s6 := (hcc1 b _ (by omega)).trans y1_; have s7 := (hcc1 b _ (by omega)).trans y2_; clear hcc1 hfc1))
              have hown5 := (hown.keep hbc1).more zc1
              have hx5 := hx.below hbc1 xz
              have hb5 := hb.trans (hbc1.mono zs_)
              have G5 := blk_below GC hbc1 zg
              clear hown hx hb GC s0 s1 s2 s3 s4 s5 s6 s7 xz xc0 xc1 cc0 cc1 cc2 y0_ y1_ y2_ zs_ hbc1
              have hown := hown5
              have hx := hx5
              have hb := hb5
              have GC := G5
              clear hown5 hx5 hb5 G5
              have hlen := HLEN.out
              have zs_ := hb.size
              have hown2 := hown.congr (z' := zOf (L1 ++ [[colorAt (f k) 3, colorAt (f q) 1]])) (fun j hj => (zOf_l hj).symm)
              have hrow : OwnI (ws1.alloc (.cells #[.int .i64 (colorAt (f k) 3), .int .i64 (colorAt (f q) 1)] 3)) ws1.heap.size (.slice (some ⟨ws1.heap.size, 0, none⟩) 2 2) (zOf (L1 ++ [[colorAt (f k) 3, colorAt (f q) 1]]) L1.length) := by rw [zOf_r]; exact own_pair ws1 _ _
              have G2 : ((ws1.alloc (.cells #[.int .i64 (colorAt (f k) 3), .int .i64 (colorAt (f q) 1)] 3)).alloc (.cells #[.slice (some ⟨ws1.heap.size, 0, none⟩) 2 2] 44)).heap[gc]? = some (.cells #[.int .i64 (f k 0), .int .i64 (f k 1), .int .i64 (f k 2)] 56 (0, 0)) := blk_alloc (blk_alloc GC _) _
              clear hown
              go_wp2_with (at_builtin; (refine appII_keep rfl _ _ rfl (w.heap.size + 1) ws1.heap.size L1.length _ _ (zOf (L1 ++ [[colorAt (f k) 3, colorAt (f q) 1]])) (ws1.heap.size + 1) gc _ _ G2 (by decide) rfl (ownII_alloc (ownII_alloc hown2 _) _) (hrow.alloc _) (by omega) rfl (by simpa using heap_alloc_new (ws1.alloc (.cells #[.int .i64 (colorAt (f k) 3), .int .i64 (colorAt (f q) 1)] 3)) _) (by omega) (by simp; omega) ?_); intro v2 wt1 hown hb4 G4; have hx5 := hx.keepB (((Below.refl _ ws1).alloc (Nat.le_refl _) (.cells #[.int .i64 (colorAt (f k) 3), .int .i64 (colorAt (f q) 1)] 3)).alloc (by simp) (.cells #[.slice (some ⟨ws1.heap.size, 0, none⟩) 2 2] 44)) (by omega) hb4 (by omega); obtain ⟨xz, xc0, xc1⟩ := id hx5)
              have hb5 := ((hb.alloc zs_ (.cells #[.int .i64 (colorAt (f k) 3), .int .i64 (colorAt (f q) 1)] 3)).alloc (by simp; omega) (.cells #[.slice (some ⟨ws1.heap.size, 0, none⟩) 2 2] 44)).trans (hb4.mono (by omega))
              obtain ⟨L2, hL2⟩ : ∃ L, L = L1 ++ [[colorAt (f k) 3, colorAt (f q) 1]] := ⟨_, rfl⟩
              have HL2 := Lib.hid (show L2 = L1 ++ prsB S f k by rw [hL2, HQ.out]; rfl)
              have HLENs := Lib.hid (show L2.length ≤ 62 by rw [hL2, List.length_append]; have e1 := HLEN.out; have e2 : ([[colorAt (f k) 3, colorAt (f q) 1]] : List (List Int)).length = 1 := rfl; omega)
              have e5 : L1.length + 1 = L2.length := by rw [hL2]; simp
              rw [← hL2, e5] at hown
              clear hL2 e5 hrow hown2 G2 GC hb4 hb hx HLEN hlen zs_
              have HLEN := HLENs
              have GC := G4
              have hb := hb5
              have hx := hx5
              clear HLENs G4 hb5 hx5
              have HF := Lib.hid (show prs S f y ++ prsRow S f y xn = L2 by rw [HX.out, show prsRow S f y (x + 1) = prsRow S f y x ++ prsAt S f y x from rfl]; unfold prsAt; rw [← HK.out, if_neg (show ¬ x + 1 < S by have e := HX.out; omega), if_pos (show y + 1 < S by have e := HY.out; omega), HL2.out, HL1.out, HL0.out]; simp [List.append_assoc])
              rw [← HF.out] at hown
              obtain ⟨xz, xc0, xc1⟩ := id hx
              clear GC
              try go_wp2
              go_roundw
              case rel => exact ⟨xn, by omega, by first | rfl | go_num, hown, hx, hb⟩
              case measure => simp [intOf]; omega
            · have d2 : ¬ (yn : Int) < (S : Int) := by omega
              have hlen := HLEN.out
              have zs_ := hb.size
              have hown2 := hown.congr (z' := zOf (L0 ++ [[f k 1, f k 2]])) (fun j hj => (zOf_l hj).symm)
              have hrow : OwnI (wa.alloc (.cells #[.int .i64 (f k 1), .int .i64 (f k 2)] 3)) wa.heap.size (.slice (some ⟨wa.heap.size, 0, none⟩) 2 2) (zOf (L0 ++ [[f k 1, f k 2]]) L0.length) := by rw [zOf_r]; exact own_pair wa _ _
              have G2 : ((wa.alloc (.cells #[.int .i64 (f k 1), .int .i64 (f k 2)] 3)).alloc (.cells #[.slice (some ⟨wa.heap.size, 0, none⟩) 2 2] 44)).heap[gc]? = some (.cells #[.int .i64 (f k 0), .int .i64 (f k 1), .int .i64 (f k 2)] 56 (0, 0)) := blk_alloc (blk_alloc GC _) _
              clear hown
              go_wp2_with (at_builtin; (refine appII_keep rfl _ _ rfl (w.heap.size + 1) wa.heap.size L0.length _ _ (zOf (L0 ++ [[f k 1, f k 2]])) (wa.heap.size + 1) gc _ _ G2 (by decide) rfl (ownII_alloc (ownII_alloc hown2 _) _) (hrow.alloc _) (by omega) rfl (by simpa using heap_alloc_new (wa.alloc (.cells #[.int .i64 (f k 1), .int .i64 (f k 2)] 3)) _) (by omega) (by simp; omega) ?_); intro v1 w4 hown hb4 G4; have hx5 := hx.keepB (((Below.refl _ wa).alloc (Nat.le_refl _) (.cells #[.int .i64 (f k 1), .int .i64 (f k 2)] 3)).alloc (by simp) (.cells #[.slice (some ⟨wa.heap.size, 0, none⟩) 2 2] 44)) (by omega) hb4 (by omega); obtain ⟨xz, xc0, xc1⟩ := id hx5)
              have hb5 := ((hb.alloc zs_ (.cells #[.int .i64 (f k 1), .int .i64 (f k 2)] 3)).alloc (by simp; omega) (.cells #[.slice (some ⟨wa.heap.size, 0, none⟩) 2 2] 44)).trans (hb4.mono (by omega))
              obtain ⟨L1, hL1⟩ : ∃ L, L = L0 ++ [[f k 1, f k 2]] := ⟨_, rfl⟩
              have HL1 := Lib.hid (show L1 = L0 ++ prs0 f k from hL1)
              have HLENs := Lib.hid (show L1.length ≤ 61 by rw [hL1, List.length_append]; have e1 := HLEN.out; have e2 : ([[f k 1, f k 2]] : List (List Int)).length = 1 := rfl; omega)
              have e5 : L0.length + 1 = L1.length := by rw [hL1]; simp
              rw [← hL1, e5] at hown
              clear hL1 e5 hrow hown2 G2 GC hb4 hb hx HLEN hlen zs_
              have HLEN := HLENs
              have GC := G4
              have hb := hb5
              have hx := hx5
              clear HLENs G4 hb5 hx5
              clear cc1 cc2
              have HF := Lib.hid (show prs S f y ++ prsRow S f y xn = L1 by rw [HX.out, show prsRow S f y (x + 1) = prsRow S f y x ++ prsAt S f y x from rfl]; unfold prsAt; rw [← HK.out, if_neg (show ¬ x + 1 < S by have e := HX.out; omega), if_neg (show ¬ y + 1 < S by have e := HY.out; omega), HL1.out, HL0.out]; simp [List.append_assoc])
              rw [← HF.out] at hown
              obtain ⟨xz, xc0, xc1⟩ := id hx
              clear GC
              try go_wp2
              go_roundw
              case rel => exact ⟨xn, by omega, by first | rfl | go_num, hown, hx, hb⟩
              case measure => simp [intOf]; omega
        · have x3 : ¬ (x : Int) < (S : Int) := by omega
          have HF := Lib.hid (show prs S f y ++ prsRow S f y x = prs S f (y + 1) by rw [show x = S by omega]; rfl)
          rw [HF.out] at hown
          go_wp2
          go_roundw
          case rel => exact ⟨y + 1, by omega, by go_num, hown, hx, hb⟩
          case measure => simp [intOf]; omega
    · have y3 : ¬ (y : Int) < (S : Int) := by omega
      have HF := Lib.hid (show prs S f y = prs S f S by rw [show y = S by omega])
      rw [HF.out] at hown
      obtain ⟨A2, c2, hv⟩ := hown.shape
      have HV := Lib.hid hv
      clear hv
      go_wp2
      go_ret
      rw [HV.out] at hown
      exact ⟨A2, c2, by rw [HV.out]; rfl, hown.down (by omega), hb⟩
end Go.Proofs.Ythenjmjnooaokaa
