/- Contracts of odd, heads, parts and ThreadsNeeded: the program's side. -/
import Derived.Test.YtkgabnhfjmldbaaThr
namespace Go.Proofs.Ytkgabnhfjmldbaa
open Go.ChangeShapes Go.WideShapes Go.ChangeAt Go.RowKit
section
variable {ops : Array Oper} {rest : List Oper} {o : Oper} {a : Act} {Q : Exit → Act → World → Prop} {K : Act → World → Prop} {E : Prop} {w : World}
/-- append to a slice of the call's own or to an empty one without capacity -/
theorem app_shapeZ (hgd : o.guard = none) (s x : Operand) (ho : o.op = .call { callee := .builtin .append, args := #[s, x], argTypes := #[29, 29] })
    (base : Nat) (v : Value) (zs : List Int) (q : Int) (b n : Nat) (hz : zs.length = n) (hs : a.eval s = v) (hown : OwnI w base v zs ∨ (zs = [] ∧ ∃ A, v = .slice (some A) 0 0)) (hx : a.eval x = .slice (some ⟨b, 0, none⟩) 1 1)
    (hnew : w.heap[b]? = some (.cells #[.int .i64 q] 3 (0, 0))) (hn : zs.length ≤ 1073741824) (hbase : base ≤ w.heap.size)
    (h : ∀ A c w', OwnI w' base (.slice A (n + 1) c) (zs ++ [q]) → Below base w w' → wpList Try.prog ops Q rest (a.put o.dst (.slice A (n + 1) c)) w') : wpList Try.prog ops Q (o :: rest) a w := by
  rcases hown with hown | ⟨rfl, A, rfl⟩
  · exact app_shape hgd s x ho base v zs q b n hz hs hown hx hnew hn hbase h
  · obtain ⟨i0, hi, hz0, hz1, hz2⟩ := info_parts info_int
    refine wpList_append_grows w hgd s x 29 ho 3 i0 _ 1 8 Try.underlying29 hi hz0 hz1 hz2 rfl (by decide) (some A) 0 0 [] hs (fun h => by simp at h) rfl (fun _ _ j u hu => by simp at hu) ⟨b, 0, none⟩ 1 1 [.int .i64 q] hx rfl (World.news_of_block (cs := #[.int .i64 q]) hnew) (by simp [Value.oneCell']) (by decide) (by decide) (by decide) ?_
    intro v' w' h1 h2
    obtain rfl : n = 0 := hz.symm
    have h3 : OwnI w' w.heap.size v' ([] ++ [q]) := h1
    obtain ⟨A2, c2, e⟩ := h3.shape
    subst e
    exact h A2 c2 w' (h3.base hbase) ((Below.refl _ _).grown h2 hbase (by simp))
end

set_option maxHeartbeats 8000000 in
theorem impl_odd (N : Nat) (A : Option Addr) (l c : Nat) (f : Nat → Nat → Int) (B : Nat) (w : World) (h : RowP 2 w B A l c f) (hB : B ≤ w.heap.size) (hN : N ≤ 10) (hl : l ≤ 20) (hf : ∀ k, k < l → 0 ≤ f k 0 ∧ f k 0 < N ∧ 0 ≤ f k 1 ∧ f k 1 < N ∧ f k 0 ≠ f k 1) :
    Calls Try.prog 29 #[.int .i64 N, .slice A l c] w fun e w' => ∃ A2 c2, e = .returned (.slice A2 (odds N f l).length c2) ∧ OwnI w' w.heap.size (.slice A2 (odds N f l).length c2) (odds N f l) ∧ Below w.heap.size w w' := by
  have HF := Lib.hid hf
  clear hf
  obtain ⟨P, hP⟩ : ∃ P, P = isOdd f l := ⟨_, rfl⟩
  have HP := Lib.hid hP
  have HL := Lib.hid (show odds N f l = membs P N by rw [hP]; rfl)
  rw [HL.out]
  clear hP
  obtain ⟨wz, hwz⟩ : ∃ wz, wz = w.alloc (.cells #[] 3) := ⟨_, rfl⟩
  have hbz : Below w.heap.size w wz := by rw [hwz]; exact (Below.refl _ _).alloc (Nat.le_refl _) _
  have hoz : OwnI wz w.heap.size (.slice (some ⟨w.heap.size, 0, none⟩) 0 0) [] := by rw [hwz]; exact own_empty w
  have hzs : w.heap.size < wz.heap.size := by rw [hwz]; simp
  go_enter Try.func29, Try.ntmps29
  go_wp2_with fail
  rw [← hwz]
  clear hwz
  refine (impl_ends N A l c f B wz (h.keep fun p hp => hbz.cell (by omega)) (by omega) hN hl HF.out).mono ?_
  rintro e w2 ⟨rfl, oD, hb2'⟩
  have s2 := hb2'.size
  have hb2 := hbz.trans (hb2'.mono (by omega))
  obtain ⟨gD, hgD⟩ : ∃ g, g = wz.heap.size := ⟨_, rfl⟩
  have hgD2 : gD < w2.heap.size := by have := oD.ge; omega
  have hgD3 : w.heap.size < gD := by omega
  have hoz2 : OwnI w2 w.heap.size (.slice (some ⟨w.heap.size, 0, none⟩) 0 0) [] := hoz.below hb2' (by intro k hk; simp [Value.ownBlock] at hk; omega)
  rw [← hgD] at oD ⊢
  clear hgD hoz hbz hb2' h
  go_wp2_with fail
  go_loopw [5, 6, 7, 13] (fun v _ _ i wr => ∃ (k : Nat) (A2 : Option Addr) (m c2 : Nat), k ≤ N ∧ i = .int .i64 k ∧ v = .slice A2 m c2 ∧ Hid ((membs P k).length = m) ∧ Hid (OwnI wr w2.heap.size (.slice A2 m c2) (membs P k) ∨ (m = 0 ∧ A2 = some ⟨w.heap.size, 0, none⟩ ∧ c2 = 0)) ∧ Below w2.heap.size w2 wr) (fun _ _ _ i _ => N - (intOf i).toNat)
  case atStart => exact ⟨0, _, 0, 0, by omega, rfl, rfl, Lib.hid rfl, Lib.hid (.inr ⟨rfl, rfl, rfl⟩), Below.refl _ _⟩
  case round =>
    obtain ⟨k, A2, m, c2, hk, rfl, rfl, hlen, hZ, hb⟩ := hrel
    have hbw := hb.size
    have hml : m ≤ 10 := by have := hlen.out; have := membs_len P k; omega
    have HMs := Lib.hid (membs_succ P k)
    by_cases hkl : k < N
    · have k0 : (0 : Int) ≤ (k : Int) := by omega
      have k3 : (k : Int) < (N : Int) := by omega
      have hd := ((oD.below hb (by intro q hq; simp [Value.ownBlock] at hq; omega)).cellAt (j := k) (by rw [degs_len]; exact hkl))
      rw [degs_nth f l hkl] at hd
      obtain ⟨d, hdd⟩ : ∃ d, d = degTo f k l := ⟨_, rfl⟩
      have hdb := degTo_bd f k l
      rw [← hdd] at hd hdb
      have HD := Lib.hid hdd
      clear hdd
      have hz0 : (OwnI (wr.alloc (.cells #[.int .i64 k] 3)) w2.heap.size (.slice A2 m c2) (membs P k) ∨ (membs P k = [] ∧ ∃ A, (Value.slice A2 m c2) = .slice (some A) 0 0)) := by
        rcases hZ.out with h | ⟨rfl, rfl, rfl⟩
        · exact .inl (h.alloc _)
        · exact .inr ⟨List.length_eq_zero_iff.1 hlen.out, _, rfl⟩
      rcases (by omega : d % 2 = 1 ∨ d % 2 = 0) with r | r
      · have HPk := Lib.hid (show P k = true by rw [HP.out]; unfold isOdd; rw [← HD.out, r]; rfl)
        have t1 : (d : Int).tmod 2 = 1 := by rw [Int.tmod_eq_emod_of_nonneg (by omega)]; omega
        have HS := Lib.hid (show membs P (k + 1) = membs P k ++ [(k : Int)] by rw [HMs.out, if_pos HPk.out])
        have HLs := Lib.hid (show (membs P (k + 1)).length = m + 1 by rw [HS.out, List.length_append, hlen.out]; rfl)
        go_wp2_with (at_builtin; refine app_shapeZ rfl _ _ rfl w2.heap.size _ (membs P k) (k : Int) wr.heap.size m hlen.out rfl hz0 rfl (heap_alloc_new wr _) (by rw [hlen.out]; omega) (by simp; omega) ?_; intro A4 c4 w4 ho4 hb4)
        have hb5 := (hb.alloc hbw (.cells #[.int .i64 k] 3)).trans hb4
        rw [← HS.out] at ho4
        clear hb4 hz0
        go_roundw
        case rel => exact ⟨k + 1, A4, m + 1, c4, by omega, by go_num, rfl, HLs, Lib.hid (.inl ho4), hb5⟩
        case measure => simp [intOf]; omega
      · have HPk := Lib.hid (show P k = false by rw [HP.out]; unfold isOdd; rw [← HD.out, r]; rfl)
        have t1 : (d : Int).tmod 2 = 0 := by rw [Int.tmod_eq_emod_of_nonneg (by omega)]; omega
        have HS := Lib.hid (show membs P (k + 1) = membs P k by rw [HMs.out, if_neg (by rw [HPk.out]; simp), List.append_nil])
        have HLs := Lib.hid (show (membs P (k + 1)).length = m by rw [HS.out, hlen.out])
        have HZs := Lib.hid (show OwnI wr w2.heap.size (.slice A2 m c2) (membs P (k + 1)) ∨ (m = 0 ∧ A2 = some ⟨w.heap.size, 0, none⟩ ∧ c2 = 0) by rw [HS.out]; exact hZ.out)
        clear hz0 hZ
        go_wp2
        go_roundw
        case rel => exact ⟨k + 1, A2, m, c2, by omega, by go_num, rfl, HLs, HZs, hb⟩
        case measure => simp [intOf]; omega
    · have HE := Lib.hid (show membs P k = membs P N by rw [show k = N by omega])
      have hf : OwnI wr w.heap.size (.slice A2 m c2) (membs P k) := by
        rcases hZ.out with h | ⟨rfl, rfl, rfl⟩
        · exact h.base (by omega)
        · rw [List.length_eq_zero_iff.1 hlen.out]
          exact hoz2.below hb (by intro q hq; simp [Value.ownBlock] at hq; omega)
      have HLn := Lib.hid (show m = (membs P N).length by rw [← HE.out]; exact hlen.out.symm)
      rw [HE.out] at hf
      have k3 : ¬ (k : Int) < (N : Int) := by omega
      have hb9 := hb2.trans (hb.mono (by omega))
      clear hoz2
      go_wp2
      go_ret
      rw [← HLn.out]
      exact ⟨A2, c2, rfl, hf, hb9⟩
end Go.Proofs.Ytkgabnhfjmldbaa
