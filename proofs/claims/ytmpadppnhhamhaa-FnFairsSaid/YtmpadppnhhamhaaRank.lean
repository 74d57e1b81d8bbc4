/- Contracts of RankingOf: the program's and the reference's. -/
import Derived.Test.YtmpadppnhhamhaaTrim
import Derived.Test.YtmpadppnhhamhaaApp
import Derived.Test.YtmpadppnhhamhaaPureRank
import Derived.Laws.CopyOwn
import Derived.ArgAppend
import Derived.Deep.RegionLaw
import Derived.Deep.QuietTactic
import Derived.BigQuiet
import Derived.Outline
namespace Go.Proofs.Ytmpadppnhhamhaa
open Go.ChangeShapes Go.WideShapes Go.ChangeAt Go.RowKit
theorem trimmed_len (z : Nat → List Int) (n : Nat) : (trimmedOf z n).length = (totalsOf z n).length := by
  unfold trimmedOf totalsOf
  split
  · split <;> simp [totals_len, trims_len]
  · rfl
theorem totals_le (z : Nat → List Int) (n : Nat) : (totalsOf z n).length ≤ 12 := by
  unfold totalsOf
  split
  · rename_i h
    rw [totals_len]
    exact (sheetOk_t h).m12
  · simp
theorem rankOf_len (z : Nat → List Int) (n : Nat) : (rankOf z n).length ≤ 12 := by
  unfold rankOf
  rw [rankTo_len, trimmed_len]
  exact totals_le z n
theorem rankOf_wf (z : Nat → List Int) (n : Nat) : ∀ x ∈ rankOf z n, (Lit.int .i64 x).wf = true := by
  intro x hx
  have h1 := rankOf_len z n
  unfold rankOf at hx h1
  rw [rankTo_len] at h1
  have h2 := rankTo_bd _ _ _ x hx
  exact WalkArith.wf_i64 (by omega)
theorem shift_ins (xs : List Int) {p : Nat} (hp : p ≤ xs.length) (x : Int) : ((xs ++ [0]).take (p + 1) ++ ((xs ++ [0]).drop p).take (xs.length + 1 - (p + 1))).set p x = insAt xs p x := by
  have h1 : (xs ++ [0]).take (p + 1) = xs.take p ++ [nth (xs ++ [0]) p] := by
    rw [take_succ_nth (by simp; omega), List.take_append_of_le_length hp]
  have h2 : ((xs ++ [0]).drop p).take (xs.length + 1 - (p + 1)) = xs.drop p := by
    rw [List.drop_append_of_le_length hp, List.take_append_of_le_length (by simp <;> omega)]
    exact List.take_of_length_le (by simp <;> omega)
  rw [h1, h2, List.append_assoc]
  have e : xs.take p ++ ([nth (xs ++ [0]) p] ++ xs.drop p) = insAt xs p (nth (xs ++ [0]) p) := rfl
  rw [e, insAt_set _ _ _ hp]
section
variable {ops : Array Oper} {rest : List Oper} {o : Oper} {a : Act} {Q : Exit → Act → World → Prop} {K : Act → World → Prop} {E : Prop} {w w0 : World}
/-- append to a slice of the call's own or to an empty one without capacity -/
theorem app_shapeZ (hgd : o.guard = none) (s x : Operand) (ho : o.op = .call { callee := .builtin .append, args := #[s, x], argTypes := #[28, 28] })
    (base : Nat) (v : Value) (zs : List Int) (q : Int) (b n : Nat) (hz : zs.length = n) (hs : a.eval s = v) (hown : OwnI w base v zs ∨ (zs = [] ∧ ∃ A, v = .slice (some A) 0 0)) (hx : a.eval x = .slice (some ⟨b, 0, none⟩) 1 1)
    (hnew : w.heap[b]? = some (.cells #[.int .i64 q] 3 (0, 0))) (hn : zs.length ≤ 1073741824) (hbase : base ≤ w.heap.size)
    (h : ∀ A c w', OwnI w' base (.slice A (n + 1) c) (zs ++ [q]) → Below base w w' → wpList Try.prog ops Q rest (a.put o.dst (.slice A (n + 1) c)) w') : wpList Try.prog ops Q (o :: rest) a w := by
  rcases hown with hown | ⟨rfl, A, rfl⟩
  · exact app_shape hgd s x ho base v zs q b n hz hs hown hx hnew hn hbase h
  · obtain ⟨i0, hi, hz0, hz1, hz2⟩ := info_parts info_int
    refine wpList_append_grows w hgd s x 28 ho 3 i0 _ 1 8 Try.underlying28 hi hz0 hz1 hz2 rfl (by decide) (some A) 0 0 [] hs (fun h => by simp at h) rfl (fun _ _ j u hu => by simp at hu) ⟨b, 0, none⟩ 1 1 [.int .i64 q] hx rfl (World.news_of_block (cs := #[.int .i64 q]) hnew) (by simp [Value.oneCell']) (by decide) (by decide) (by decide) ?_
    intro v' w' h1 h2
    obtain rfl : n = 0 := hz.symm
    have h3 : OwnI w' w.heap.size v' ([] ++ [q]) := h1
    obtain ⟨A2, c2, e⟩ := h3.shape
    subst e
    exact h A2 c2 w' (h3.base hbase) ((Below.refl _ _).grown h2 hbase (by simp))
/-- copy(out[p+1:], out[p:]) of a slice of the call's own, in a region that draws its order -/
theorem copy_shift (hgd : o.guard = none) (d s : Operand) (ho : o.op = .call { callee := .builtin .copy, args := #[d, s], argTypes := #[28, 28] })
    (base g N c p : Nat) (zs : List Int) (dp sp : Option Addr) (dl sl dc sc : Nat) (hd : a.eval d = .slice dp dl dc) (hs : a.eval s = .slice sp sl sc) (hdl : dl = N - (p + 1)) (hsl : sl = N - p)
    (hown : OwnI w base (.slice (some ⟨g, 0, none⟩) N c) zs) (hp : p + 1 ≤ N) (hdp : p + 1 < N → dp = some ⟨g, p + 1, none⟩ ∧ sp = some ⟨g, p, none⟩) (hb : Below base w0 w)
    (h : ∀ w', OwnI w' base (.slice (some ⟨g, 0, none⟩) N c) (zs.take (p + 1) ++ (zs.drop p).take (N - (p + 1))) → Below base w0 w' → K (a.put o.dst (goInt dl)) w') :
    if Region.wanted o (yielded ops a.tmps) = true then Oper.wp Try.prog o a w K Q else E := by
  subst hdl
  subst hsl
  have hN := hown.size
  have hge := hown.ge
  have hcell := fun j (hj : j < zs.length) => hown.cellAt hj
  rcases hown.2 with ⟨h', _⟩ | ⟨g', cap', cur, h', hbg, hg, hnc, hcm, hcs, htake⟩
  · simp at h'
  simp only [Value.slice.injEq, Option.some.injEq, Addr.mk.injEq, and_true] at h'
  obtain ⟨e1, _, e3⟩ := h'
  subst e1
  subst e3
  have hlc : ((zs.drop p).take (N - (p + 1))).length = N - (p + 1) := by simp; omega
  have key := step_copy_splice (P := Try.prog) (ops := ops) (o := o) (a := a) (w := w) (K := K) (Q := Q) (E := E) hgd d s 28 28 ho 3 Try.underlying28 (by kernel_rfl) dp sp (N - (p + 1)) dc (N - p) sc hd hs
    g (p + 1) cur.toList 3 (by simpa using hg) (((zs.drop p).take (N - (p + 1))).map (Value.int .i64)) (by rw [List.length_map, hlc]; exact (Nat.min_eq_right (by omega)).symm)
    (by
      intro hpos
      rw [List.length_map, hlc] at hpos
      obtain ⟨e1, e2⟩ := hdp (by omega)
      refine ⟨e1, _, e2, ?_⟩
      intro j v hj
      rw [List.getElem?_map] at hj
      have hj2 : j < N - (p + 1) := by
        rcases Nat.lt_or_ge j (N - (p + 1)) with q | q
        · exact q
        · rw [List.getElem?_eq_none (by rw [hlc]; exact q)] at hj; simp at hj
      rw [List.getElem?_take, if_pos hj2, List.getElem?_drop] at hj
      rw [add_plain, hcell (p + j) (by omega)]
      rw [nth_get? (by omega)] at hj
      simpa using hj)
    (by rw [List.length_map, hlc, Array.length_toList, hcs]; omega)
    (by intro v hv; obtain ⟨q, _, rfl⟩ := List.mem_map.1 hv; rfl) base w0 hb hge.1
  refine key ?_
  intro w' hh hb'
  rw [List.length_map, hlc]
  refine h w' ⟨?_, .inr ⟨g, c, (splice cur.toList (p + 1) (((zs.drop p).take (N - (p + 1))).map (Value.int .i64))).toArray, ?_, hge.1, hh.out, ?_, hcm, ?_, ?_⟩⟩ hb'
  · simp
  · congr 1
    simp
    omega
  · simp
    omega
  · rw [List.size_toArray, length_splice _ _ _ (by rw [List.length_map, hlc, Array.length_toList, hcs]; omega), Array.length_toList, hcs]
  · rw [Nat.mul_one] at htake
    have e1 : cur.toList.take (p + 1) = (zs.take (p + 1)).map (Value.int .i64) := by
      rw [List.map_take, ← htake, List.take_take, Nat.min_eq_left (by omega)]
    simp only [splice]
    rw [e1, ← List.append_assoc, ← List.map_append]
    rw [List.take_append_of_le_length (by simp)]
    exact List.take_of_length_le (by simp)
end
set_option maxRecDepth 100000 in
set_option maxHeartbeats 16000000 in
theorem spec_ranking (A : Option Addr) (n c : Nat) (z : Nat → List Int) (R : List Int) (B : Nat) (w : World) (h : RowII w B A n c z) (hB : B ≤ w.heap.size) (hR : Hid (R = rankOf z n)) :
    Calls Try.prog 27 #[.slice A n c] w fun e w' => ∃ A2 c2, e = .returned (.slice A2 R.length c2) ∧ OwnI w' w.heap.size (.slice A2 R.length c2) R ∧ Below w.heap.size w w' := by
  have hcap := h.cap
  unfold maxLen at hcap
  obtain ⟨a, ha⟩ : ∃ a, a = trimmedOf z n := ⟨_, rfl⟩
  obtain ⟨b, hbb⟩ : ∃ b, b = totalsOf z n := ⟨_, rfl⟩
  obtain ⟨m, hm⟩ : ∃ m, m = b.length := ⟨_, rfl⟩
  have m12 : m ≤ 12 := by rw [hm, hbb]; exact totals_le z n
  have HA := Lib.hid ha
  have HB := Lib.hid hbb
  have HLb := Lib.hid hm.symm
  have HLa := Lib.hid (show a.length = m by rw [hm, ha, hbb]; exact trimmed_len z n)
  have HR := Lib.hid (show R = rankTo a b m by rw [hR.out, ← HLa.out, ha, hbb]; rfl)
  have HRl := Lib.hid (show R.length = m by rw [HR.out, rankTo_len])
  clear ha hbb hm hR
  go_enter Try.func27, Try.ntmps27
  go_wp2_with fail
  have hbz : Below w.heap.size w (w.alloc (.cells #[] 3)) := (Below.refl _ _).alloc (Nat.le_refl _) _
  have hoz := own_empty w
  obtain ⟨wz, hwz⟩ : ∃ wz, wz = w.alloc (.cells #[] 3) := ⟨_, rfl⟩
  have hzs : w.heap.size < wz.heap.size := by rw [hwz]; simp
  rw [← hwz] at hbz hoz ⊢
  clear hwz
  refine (spec_trimmed A n c z a B _ (h.keep fun p hp => hbz.cell (by omega)) (by omega) HA).mono ?_
  rintro e w1 ⟨Aa, ca, rfl, hoa, hb1⟩
  rw [HLa.out] at hoa ⊢
  have s1 := hb1.size
  have hb1' := hbz.trans (hb1.mono (by omega))
  go_wp2_with fail
  refine (spec_totals A n c z b B _ (h.keep fun p hp => hb1'.cell (by omega)) (by omega) HB).mono ?_
  rintro e w2 ⟨Ab, cb, rfl, hob, hb2⟩
  rw [HLb.out] at hob ⊢
  have s2 := hb2.size
  have hb2' := hb1'.trans (hb2.mono (by omega))
  have hoa2 := hoa.keep hb2
  have hoz2 : OwnI w2 w.heap.size (.slice (some ⟨w.heap.size, 0, none⟩) 0 0) [] := (hoz.keep hb1).below hb2 (by intro k hk; simp [Value.ownBlock] at hk; omega)
  clear hb1 hb2 hb1' hbz hoz hoa
  go_wp2_with fail
  go_loopw [3, 6, 7, 8] (fun v iv _ _ wr => ∃ (i : Nat) (A2 : Option Addr) (c2 : Nat), i ≤ m ∧ iv = .int .i64 i ∧ v = .slice A2 i c2 ∧ Hid (OwnI wr w2.heap.size (.slice A2 i c2) (rankTo a b i) ∨ (i = 0 ∧ A2 = some ⟨w.heap.size, 0, none⟩ ∧ c2 = 0)) ∧ Below w2.heap.size w2 wr) (fun _ iv _ _ _ => m - (intOf iv).toNat)
  case atStart => exact ⟨0, _, _, by omega, rfl, rfl, Lib.hid (.inr ⟨rfl, rfl, rfl⟩), Below.refl _ _⟩
  case round =>
    obtain ⟨i, A2, c2, hi, rfl, rfl, hZ, hb⟩ := hrel
    have hbw := hb.size
    have HLi := Lib.hid (rankTo_len a b i)
    by_cases hil : i < m
    · have hZ2 : OwnI wr w2.heap.size (.slice A2 i c2) (rankTo a b i) ∨ (rankTo a b i = [] ∧ ∃ A, (Value.slice A2 i c2) = .slice (some A) 0 0) := by
        rcases hZ.out with h | ⟨rfl, rfl, rfl⟩
        · exact .inl h
        · exact .inr ⟨rfl, _, rfl⟩
      have hz0 : (OwnI (wr.alloc (.cells #[.int .i64 i] 3)) w2.heap.size (.slice A2 i c2) (rankTo a b i) ∨ (rankTo a b i = [] ∧ ∃ A, (Value.slice A2 i c2) = .slice (some A) 0 0)) := by
        rcases hZ2 with h | h
        · exact .inl (h.alloc _)
        · exact .inr h
      clear hZ2 hZ
      go_wp2_with (at_builtin; refine app_shapeZ rfl _ _ rfl w2.heap.size _ (rankTo a b i) (i : Int) wr.heap.size i HLi.out rfl hz0 rfl (heap_alloc_new wr _) (by rw [HLi.out]; omega) (by simp; omega) ?_; intro A4 c4 w4 ho4 hb4)
      have hb5 := (hb.alloc hbw _).trans hb4
      clear hb4 hz0 hb hbw
      have HE : rankTo a b i ++ [(i : Int)] = insAt (rankTo a b i) i i := by
        have := insAt_end (rankTo a b i) (i : Int)
        rw [HLi.out] at this
        exact this.symm
      rw [HE] at ho4
      clear HE
      have hform := ho4.form.2
      rcases hform with ⟨_, hbad⟩ | ⟨g, rfl⟩
      · omega
      have hbw := hb5.size
      go_wp2_with fail
      go_loopw [7, 8] (fun pv _ wr => ∃ p : Nat, p ≤ i ∧ pv = .int .i64 p ∧ Hid (downTo a b (rankTo a b i) i i = downTo a b (rankTo a b i) i p) ∧ (∃ y, OwnI wr w2.heap.size (.slice (some ⟨g, 0, none⟩) (i + 1) c4) (insAt (rankTo a b i) p y)) ∧ Below w2.heap.size w2 wr) (fun pv _ _ => (intOf pv).toNat)
      case atStart => exact ⟨i, by omega, rfl, Lib.hid rfl, ⟨_, ho4⟩, hb5⟩
      case round =>
        clear ho4 hb5 hbw
        obtain ⟨p, hp, rfl, HD, ⟨y, ho⟩, hb⟩ := hrel
        have hbw := hb.size
        have hg := ho.ge
        have HIL := Lib.hid (show (insAt (rankTo a b i) p y).length = i + 1 by rw [insAt_len _ _ (by rw [HLi.out]; exact hp), HLi.out])
        rcases (by omega : p = 0 ∨ 0 < p) with rfl | hpp
        · have hos := ho.stored 0 (i : Int)
          rw [insAt_set _ _ _ (by omega)] at hos
          have hq := ho.cellAt (j := 0) (by rw [HIL.out]; omega)
          have hf := ho.frozenAt 0
          have HS := Lib.hid (show insAt (rankTo a b i) 0 i = rankTo a b (i + 1) by
            simp only [rankTo]; rw [rankTo_len, HD.out]; rfl)
          rw [HS.out] at hos
          have hb7 := hb.setCell (p := ⟨g, 0, none⟩) hg.1 (.int .i64 (i : Int))
          have l3 : (0 : Int) < (i : Int) + 1 := by omega
          clear ho hb
          go_wp2
          go_roundw
          case rel => exact ⟨i + 1, _, _, by omega, by go_num, by go_num, Lib.hid (.inl hos), hb7⟩
          case measure => simp [intOf]; omega
        · obtain ⟨p, rfl⟩ : ∃ k, p = k + 1 := ⟨p - 1, by omega⟩
          have hnq := rankTo_nth a b (i := i) (j := p) (by omega)
          obtain ⟨q, hq⟩ : ∃ q : Nat, nth (rankTo a b i) p = (q : Int) := ⟨(nth (rankTo a b i) p).toNat, by omega⟩
          have c1 := ho.cellAt (j := p) (by rw [HIL.out]; omega)
          rw [nth_insAt_lt (by rw [HLi.out]; exact hp) (by omega), hq] at c1
          have hqi : q < i := by omega
          have q0 : (0 : Int) ≤ (q : Int) := by omega
          have q1 : (q : Int) < (m : Int) := by omega
          have i0 : (0 : Int) ≤ (i : Int) := by omega
          have i1 : (i : Int) < (m : Int) := by omega
          have p0 : (0 : Int) ≤ (p : Int) := by omega
          have p1 : (p : Int) < (i : Int) + 1 := by omega
          have p2 : (p : Int) + 1 < (i : Int) + 1 := by omega
          have p3 : (0 : Int) ≤ (p : Int) + 1 := by omega
          have p4 : (0 : Int) < (p : Int) + 1 := by omega
          have HW := Lib.hid (show worse a b i (nth (rankTo a b i) (p + 1 - 1)).toNat = (decide (nth a q < nth a i) || (decide (nth a q = nth a i) && decide (nth b q < nth b i))) by rw [Nat.add_sub_cancel, hq]; rfl)
          have hoa3 := hoa2.keep hb
          have hob3 := hob.keep hb
          have fa := hoa3.form.2
          rcases fa with ⟨_, hbad⟩ | ⟨ga, rfl⟩
          · omega
          have fb := hob3.form.2
          rcases fb with ⟨_, hbad⟩ | ⟨gb, rfl⟩
          · omega
          have a1 := hoa3.cellAt (j := q) (by rw [HLa.out]; omega)
          have a2 := hoa3.cellAt (j := i) (by rw [HLa.out]; omega)
          have b1 := hob3.cellAt (j := q) (by rw [HLb.out]; omega)
          have b2 := hob3.cellAt (j := i) (by rw [HLb.out]; omega)
          clear hoa3 hob3 hnq
          obtain ⟨va, hva⟩ : ∃ v, v = nth a q := ⟨_, rfl⟩
          obtain ⟨ua, hua⟩ : ∃ v, v = nth a i := ⟨_, rfl⟩
          obtain ⟨vb, hvb⟩ : ∃ v, v = nth b q := ⟨_, rfl⟩
          obtain ⟨ub, hub⟩ : ∃ v, v = nth b i := ⟨_, rfl⟩
          rw [← hva, ← hua, ← hvb, ← hub] at HW
          rw [← hva] at a1
          rw [← hua] at a2
          rw [← hvb] at b1
          rw [← hub] at b2
          clear hva hua hvb hub
          rcases (by omega : va < ua ∨ (va = ua ∧ vb < ub) ∨ (va = ua ∧ ub ≤ vb) ∨ ua < va) with d | ⟨d, d2⟩ | ⟨d, d2⟩ | d
          · have d0 : decide (ua < va) = false := decide_eq_false (by omega)
            have d1 : (va == ua) = false := beq_eq_false_iff_ne.2 (by omega)
            have d3 : decide (va = ua) = false := decide_eq_false (by omega)
            have HD2 := Lib.hid (HD.out.trans (downTo_yes (by omega) (HW.out.trans (by simp [d]))))
            have hos := ho.stored (p + 1) (q : Int)
            have HI := insAt_down (rankTo a b i) (p := p) y 0 (by rw [HLi.out]; omega)
            rw [hq] at HI
            have HI2 := insAt_set (rankTo a b i) (p := p + 1) y 0 (by rw [HLi.out]; exact hp)
            have HI3 : (insAt (rankTo a b i) (p + 1) y).set (p + 1) (q : Int) = insAt (rankTo a b i) p (q : Int) := HI
            rw [HI3] at hos
            have ct := ho.cellAt (j := p + 1) (by rw [HIL.out]; omega)
            have hf := ho.frozenAt (p + 1)
            have hb7 := hb.setCell (p := ⟨g, p + 1, none⟩) hg.1 (.int .i64 (q : Int))
            clear HI HI2 HI3 ho hb
            go_wp2_with fail
            go_quiet (fail)
            go_wp2
            go_roundw
            case rel => exact ⟨p, by omega, by go_num, HD2, ⟨_, hos⟩, ⟨hb7.os, hb7.tape, hb7.output, hb7.size, hb7.block⟩⟩
            case measure => simp [intOf]
          · subst d
            have d0 : decide (ub ≤ vb) = false := decide_eq_false (by omega)
            have d3 : decide (va < va) = false := decide_eq_false (by omega)
            have HD2 := Lib.hid (HD.out.trans (downTo_yes (by omega) (HW.out.trans (by simp [d2]))))
            have hos := ho.stored (p + 1) (q : Int)
            have HI := insAt_down (rankTo a b i) (p := p) y 0 (by rw [HLi.out]; omega)
            rw [hq] at HI
            have HI2 := insAt_set (rankTo a b i) (p := p + 1) y 0 (by rw [HLi.out]; exact hp)
            have HI3 : (insAt (rankTo a b i) (p + 1) y).set (p + 1) (q : Int) = insAt (rankTo a b i) p (q : Int) := HI
            rw [HI3] at hos
            have ct := ho.cellAt (j := p + 1) (by rw [HIL.out]; omega)
            have hf := ho.frozenAt (p + 1)
            have hb7 := hb.setCell (p := ⟨g, p + 1, none⟩) hg.1 (.int .i64 (q : Int))
            clear HI HI2 HI3 ho hb
            go_wp2_with fail
            go_quiet (fail)
            go_wp2
            go_roundw
            case rel => exact ⟨p, by omega, by go_num, HD2, ⟨_, hos⟩, ⟨hb7.os, hb7.tape, hb7.output, hb7.size, hb7.block⟩⟩
            case measure => simp [intOf]
          · subst d
            have d0 : ¬ vb < ub := by omega
            have d3 : decide (ub ≤ vb) = true := decide_eq_true (by omega)
            have d4 : decide (va < va) = false := decide_eq_false (by omega)
            have HD2 := Lib.hid (HD.out.trans (downTo_no (by omega) (HW.out.trans (by simp [d0]))))
            have hos := ho.stored (p + 1) (i : Int)
            rw [insAt_set _ _ _ (by rw [HLi.out]; exact hp)] at hos
            have HS := Lib.hid (show insAt (rankTo a b i) (p + 1) i = rankTo a b (i + 1) by
              simp only [rankTo]; rw [rankTo_len, HD2.out])
            rw [HS.out] at hos
            have ct := ho.cellAt (j := p + 1) (by rw [HIL.out]; omega)
            have hf := ho.frozenAt (p + 1)
            have hb7 := hb.setCell (p := ⟨g, p + 1, none⟩) hg.1 (.int .i64 (i : Int))
            clear ho hb
            go_wp2_with fail
            go_quiet (fail)
            go_wp2
            go_roundw
            case rel => exact ⟨i + 1, _, _, by omega, by go_num, by go_num, Lib.hid (.inl hos), ⟨hb7.os, hb7.tape, hb7.output, hb7.size, hb7.block⟩⟩
            case measure => simp [intOf]; omega
          · have d0 : ¬ va < ua := by omega
            have d1 : ¬ va = ua := by omega
            have d3 : decide (ua < va) = true := decide_eq_true (by omega)
            have HD2 := Lib.hid (HD.out.trans (downTo_no (by omega) (HW.out.trans (by simp [d0, d1]))))
            have hos := ho.stored (p + 1) (i : Int)
            rw [insAt_set _ _ _ (by rw [HLi.out]; exact hp)] at hos
            have HS := Lib.hid (show insAt (rankTo a b i) (p + 1) i = rankTo a b (i + 1) by
              simp only [rankTo]; rw [rankTo_len, HD2.out])
            rw [HS.out] at hos
            have ct := ho.cellAt (j := p + 1) (by rw [HIL.out]; omega)
            have hf := ho.frozenAt (p + 1)
            have hb7 := hb.setCell (p := ⟨g, p + 1, none⟩) hg.1 (.int .i64 (i : Int))
            clear ho hb
            go_wp2_with fail
            go_quiet (fail)
            go_wp2
            go_roundw
            case rel => exact ⟨i + 1, _, _, by omega, by go_num, by go_num, Lib.hid (.inl hos), ⟨hb7.os, hb7.tape, hb7.output, hb7.size, hb7.block⟩⟩
            case measure => simp [intOf]; omega
    · obtain rfl : i = m := by omega
      have hbe := hb2'.trans (hb.mono (by omega))
      go_wp2
      go_ret
      rw [HRl.out]
      refine ⟨_, _, rfl, ?_, hbe⟩
      rw [HR.out]
      rcases hZ.out with h | ⟨rfl, rfl, rfl⟩
      · exact h.base (by omega)
      · exact hoz2.below hb (by intro k hk; simp [Value.ownBlock] at hk; omega)
end Go.Proofs.Ytmpadppnhhamhaa
