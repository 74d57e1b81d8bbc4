/- 'append' of a row of lines to a row of lines of the call's own. -/
import Derived.Test.YtkgabnhfjmldbaaAppS
import Derived.Test.YtkgabnhfjmldbaaInts
import Derived.Test.YtkgabnhfjmldbaaApp
import Derived.Test.YtkgabnhfjmldbaaPureEv
namespace Go.Proofs.Ytkgabnhfjmldbaa
open Go.ChangeShapes Go.WideShapes Go.ChangeAt Go.RowKit
/-- n of f, behind them those of g -/
def catS (f : Nat → Nat → Int) (n : Nat) (g : Nat → Nat → Int) : Nat → Nat → Int := fun i => if i < n then f i else g (i - n)
theorem flatS_cat {m : Nat} (hm : 0 < m) (n k : Nat) (f g : Nat → Nat → Int) : flatS m n f ++ flatS m k g = flatS m (n + k) (catS f n g) := by
  induction k with
  | zero =>
    have e : flatS m 0 g = [] := by simp [flatS]
    rw [e, List.append_nil, Nat.add_zero]
    exact flatS_congr hm fun i hi j _ => by unfold catS; rw [if_pos hi]
  | succ k ih =>
    rw [flatS_snoc g hm, ← List.append_assoc, ih, ← Nat.add_assoc, flatS_snoc _ hm]
    congr 1
    apply List.map_congr_left
    intro j _
    unfold catS
    rw [if_neg (by omega), show n + k - n = k by omega]
theorem catS_rem (f : Nat → Nat → Int) (i : Nat) : catS f i (fun k => f (i + 1 + k)) = rem f i := by
  funext k
  unfold catS rem
  split
  · rfl
  · show f (i + 1 + (k - i)) = f (k + 1)
    rw [show i + 1 + (k - i) = k + 1 by omega]
theorem own_one (w : World) (x : Int) : OwnI (w.alloc (.cells #[.int .i64 x] 3)) w.heap.size (.slice (some ⟨w.heap.size, 0, none⟩) 1 1) [x] :=
  World.ownsRow_lit w #[.int .i64 x] 1 (Nat.le_refl _) (by unfold maxLen; omega) rfl
theorem ownI_got {w : World} {base n c : Nat} {A : Option Addr} {zs : List Int} (h : OwnI w base (.slice A n c) zs) (hn : 0 < n) : ∃ g, A = some ⟨g, 0, none⟩ := by
  rcases h.form.2 with ⟨_, e⟩ | e
  · omega
  · exact e
/-- the first k structs of a row -/
theorem OwnS.pre {m e : Nat} {w : World} {base g n c k : Nat} {f : Nat → Nat → Int} (h : OwnS m e w base (.slice (some ⟨g, 0, none⟩) n c) n f) (hk : k ≤ n) : OwnS m e w base (.slice (some ⟨g, 0, none⟩) k c) k f := by
  have hl : flatS m k f = (flatS m n f).take (k * m) := by
    apply List.ext_getElem?
    intro j
    rw [List.getElem?_take]
    split
    · rename_i hj
      have hj2 : j < n * m := Nat.lt_of_lt_of_le hj (Nat.mul_le_mul_right _ hk)
      simp [flatS, hj, hj2]
    · rename_i hj
      rw [List.getElem?_eq_none (by rw [flatS_len]; omega)]
  rcases h.2 with ⟨h', _⟩ | ⟨g', cap, cur, hv, hbb, hg, hnc, hcm, hcs, ht⟩
  · simp at h'
  · simp only [Value.slice.injEq, Option.some.injEq, Addr.mk.injEq, and_true, true_and] at hv
    obtain ⟨rfl, rfl⟩ := hv
    refine ⟨by rw [flatS_len], .inr ⟨g, c, cur, rfl, hbb, hg, by omega, hcm, hcs, ?_⟩⟩
    rw [hl, ← ht, List.take_take, Nat.min_eq_left (Nat.mul_le_mul_right _ hk)]
theorem news_rowP {w : World} {m B n c : Nat} {ad : Addr} {f : Nat → Nat → Int} (hm : 0 < m) (h : RowP m w B (some ad) n c f) : ∀ j u, (flatS m n f)[j]? = some u → w.cell? (ad.add j) = some u := by
  intro j u hj
  have hl : j < n * m := by
    have := List.getElem?_eq_some_iff.1 hj
    obtain ⟨q, _⟩ := this
    rw [flatS_len] at q
    exact q
  have hn : j / m < n := (Nat.div_lt_iff_lt_mul hm).2 hl
  have hr : j % m < m := Nat.mod_lt _ hm
  obtain ⟨b, off, e, _, hc⟩ := h.at_ hn
  cases e
  have hd : j / m * m + j % m = j := by rw [Nat.mul_comm]; exact Nat.div_add_mod j m
  have h1 := flatS_get (m := m) (n := n) f hn hr
  rw [hd] at h1
  rw [h1] at hj
  cases hj
  have h2 := hc _ hr
  rw [hd] at h2
  rw [add_plain]; exact h2
/-- the structs behind lo -/
theorem news_sub {w : World} {m e base g n c lo : Nat} {f : Nat → Nat → Int} (hm : 0 < m) (h : OwnS m e w base (.slice (some ⟨g, 0, none⟩) n c) n f) : ∀ j u, (flatS m (n - lo) (fun k => f (lo + k)))[j]? = some u → w.cell? ((⟨g, lo * m, none⟩ : Addr).add j) = some u := by
  intro j u hj
  have hl : j < (n - lo) * m := by
    have := List.getElem?_eq_some_iff.1 hj
    obtain ⟨q, _⟩ := this
    rw [flatS_len] at q
    exact q
  have hn : j / m < n - lo := (Nat.div_lt_iff_lt_mul hm).2 hl
  have hr : j % m < m := Nat.mod_lt _ hm
  have hd : j / m * m + j % m = j := by rw [Nat.mul_comm]; exact Nat.div_add_mod j m
  have h1 := flatS_get (m := m) (n := n - lo) (fun k => f (lo + k)) hn hr
  rw [hd] at h1
  rw [h1] at hj
  cases hj
  have hq : lo + j / m < n := by generalize j / m = q at hn; omega
  have h2 := h.cellAt (i := lo + j / m) (j := j % m) hq hr
  rw [add_plain]
  rw [Nat.add_mul, Nat.add_assoc, hd] at h2
  exact h2
theorem OwnS.le {w : World} {m e base n c : Nat} {A : Option Addr} {f : Nat → Nat → Int} (h : OwnS m e w base (.slice A n c) n f) : n ≤ c := by
  rcases h.2 with ⟨h', hn⟩ | ⟨g, cap, cur, h', _, _, hnc, _⟩
  · omega
  · simp only [Value.slice.injEq] at h'
    obtain ⟨_, _, rfl⟩ := h'
    exact hnc
theorem news_own {w : World} {m e base g n c : Nat} {f : Nat → Nat → Int} (h : OwnS m e w base (.slice (some ⟨g, 0, none⟩) n c) n f) : ∀ j u, (flatS m n f)[j]? = some u → w.cell? ((⟨g, 0, none⟩ : Addr).add j) = some u := World.ownsRow.cells h (g := g) rfl
/-- where the structs behind lo begin: where none can lie there the array's own address is kept -/
theorem sub_addr {m e base g n c lo : Nat} {f : Nat → Nat → Int} (hm : 0 < m) (hn : n ≤ c) : ∃ ad : Addr, (if c = lo then some (⟨g, 0, none⟩ : Addr) else some ⟨g, lo * m, none⟩) = some ad ∧
    ∀ w : World, OwnS m e w base (.slice (some ⟨g, 0, none⟩) n c) n f → ∀ j u, (flatS m (n - lo) (fun k => f (lo + k)))[j]? = some u → w.cell? (ad.add j) = some u := by
  by_cases q : c = lo
  · refine ⟨⟨g, 0, none⟩, if_pos q, fun w _ j u hj => ?_⟩
    rw [show n - lo = 0 by omega] at hj
    simp [flatS] at hj
  · exact ⟨⟨g, lo * m, none⟩, if_neg q, fun w h => news_sub hm h⟩
theorem ownBlock_blk (A : Option Addr) (n c : Nat) : (Value.slice A n c).ownBlock = blk A := by cases A <;> rfl
/-- a row of integers and a row of structs never lie in one block -/
theorem own_ne {m e : Nat} {w : World} {b b' n c n' c' : Nat} {A A' : Option Addr} {zs : List Int} {f : Nat → Nat → Int} (he : e ≠ 3) (h : OwnI w b (.slice A n c) zs) (h' : OwnS m e w b' (.slice A' n' c') n' f) : ∀ k, blk A = some k → blk A' = some k → False := by
  intro k hk hk'
  rcases h.2 with ⟨h1, _⟩ | ⟨g, cap, cur, hv, _, hg, _⟩
  · simp only [Value.slice.injEq] at h1
    rw [h1.1] at hk; cases hk
  · rcases h'.2 with ⟨h1, _⟩ | ⟨g', cap', cur', hv', _, hg', _⟩
    · simp only [Value.slice.injEq] at h1
      rw [h1.1] at hk'; cases hk'
    · simp only [Value.slice.injEq] at hv hv'
      obtain ⟨rfl, _, _⟩ := hv
      obtain ⟨rfl, _, _⟩ := hv'
      have e1 : g = k := Option.some.inj hk
      have e2 : g' = k := Option.some.inj hk'
      subst e1
      subst e2
      rw [hg] at hg'
      simp only [Option.some.injEq, Obj.cells.injEq] at hg'
      exact he hg'.2.1.symm
theorem info_lineA : (Try.prog.info? 43).map (fun i => (i.zero, i.size, i.bytes)) = some (some (.agg #[.int .i64 0, .int .i64 0]), 2, 16) := by kernel_rfl
section
variable {ops : Array Oper} {rest : List Oper} {o : Oper} {a : Act} {Q : Exit → Act → World → Prop} {K : Act → World → Prop} {E : Prop} {w : World}
theorem appL_wp (s x : Operand) (ho : o.op = .call { callee := .builtin .append, args := #[s, x], argTypes := #[25, 25] })
    (base n m c r : Nat) (v : Value) (f g F : Nat → Nat → Int) (ad : Addr) (hs : a.eval s = v) (hown : OwnS 2 43 w base v n f) (hx : a.eval x = .slice (some ad) m c)
    (hnews : ∀ j u, (flatS 2 m g)[j]? = some u → w.cell? (ad.add j) = some u) (hr : n + m = r) (hF : ∀ i, i < r → ∀ j, j < 2 → catS f n g i j = F i j) (hn : r ≤ 1048576) (hbase : base ≤ w.heap.size)
    (h : ∀ A c w', OwnS 2 43 w' base (.slice A r c) r F → w.grownBy w' v.ownBlock → K (a.put o.dst (.slice A r c)) w') : Oper.wp Try.prog o a w K Q := by
  subst hr
  obtain ⟨i0, hi, hz0, hz1, hz2⟩ := info_parts info_lineA
  refine wp_append_own w s x 25 ho base 43 i0 (.agg #[.int .i64 0, .int .i64 0]) 2 16 Try.underlying25 hi hz0 hz1 hz2 rfl (by decide) v n _ hs hown ad m c (flatS 2 m g) hx (by rw [flatS_len]) hnews ?_
    (by unfold maxLen; omega) (by omega) hbase ?_
  · intro u hu
    unfold flatS at hu
    obtain ⟨q, _, rfl⟩ := List.mem_map.1 hu
    rfl
  · intro v' w' h1 h2 _
    rw [flatS_cat (by decide)] at h1
    have h4 : OwnS 2 43 w' base v' (n + m) (catS f n g) := h1
    have h3 := h4.congr (f' := F) (by decide) hF
    obtain ⟨A, c, e2⟩ := h3.shape
    rw [e2] at h3 ⊢
    exact h A c w' h3 h2
/-- in a plain region -/
theorem appL_plain (hgd : o.guard = none) (s x : Operand) (ho : o.op = .call { callee := .builtin .append, args := #[s, x], argTypes := #[25, 25] })
    (base n m c r : Nat) (v : Value) (f g F : Nat → Nat → Int) (ad : Addr) (hs : a.eval s = v) (hown : OwnS 2 43 w base v n f) (hx : a.eval x = .slice (some ad) m c)
    (hnews : ∀ j u, (flatS 2 m g)[j]? = some u → w.cell? (ad.add j) = some u) (hr : n + m = r) (hF : ∀ i, i < r → ∀ j, j < 2 → catS f n g i j = F i j) (hn : r ≤ 1048576) (hbase : base ≤ w.heap.size)
    (h : ∀ A c w', OwnS 2 43 w' base (.slice A r c) r F → w.grownBy w' v.ownBlock → wpList Try.prog ops Q rest (a.put o.dst (.slice A r c)) w') : wpList Try.prog ops Q (o :: rest) a w :=
  wpList_plain hgd fun _ hK => appL_wp s x ho base n m c r v f g F ad hs hown hx hnews hr hF hn hbase fun A c w' h2 h3 => hK _ _ (h A c w' h2 h3)
/-- at a step of a region that draws its order -/
theorem appL_drawn (hw : Region.wanted o (yielded ops a.tmps) = true) (s x : Operand) (ho : o.op = .call { callee := .builtin .append, args := #[s, x], argTypes := #[25, 25] })
    (base n m c r : Nat) (v : Value) (f g F : Nat → Nat → Int) (ad : Addr) (hs : a.eval s = v) (hown : OwnS 2 43 w base v n f) (hx : a.eval x = .slice (some ad) m c)
    (hnews : ∀ j u, (flatS 2 m g)[j]? = some u → w.cell? (ad.add j) = some u) (hr : n + m = r) (hF : ∀ i, i < r → ∀ j, j < 2 → catS f n g i j = F i j) (hn : r ≤ 1048576) (hbase : base ≤ w.heap.size)
    (h : ∀ A c w', OwnS 2 43 w' base (.slice A r c) r F → w.grownBy w' v.ownBlock → K (a.put o.dst (.slice A r c)) w') :
    if Region.wanted o (yielded ops a.tmps) = true then Oper.wp Try.prog o a w K Q else E := by
  rw [if_pos hw]
  exact appL_wp s x ho base n m c r v f g F ad hs hown hx hnews hr hF hn hbase h
/-- append of one integer: what else the call owns stays -/
theorem appI_grown (hgd : o.guard = none) (s x : Operand) (ho : o.op = .call { callee := .builtin .append, args := #[s, x], argTypes := #[29, 29] })
    (base n : Nat) (v : Value) (zs : List Int) (q : Int) (b : Nat) (hz : zs.length = n) (hs : a.eval s = v) (hown : OwnI w base v zs) (hx : a.eval x = .slice (some ⟨b, 0, none⟩) 1 1)
    (hnew : w.heap[b]? = some (.cells #[.int .i64 q] 3 (0, 0))) (hn : n ≤ 1073741824) (hbase : base ≤ w.heap.size)
    (h : ∀ A c w', OwnI w' base (.slice A (n + 1) c) (zs ++ [q]) → w.grownBy w' v.ownBlock → wpList Try.prog ops Q rest (a.put o.dst (.slice A (n + 1) c)) w') : wpList Try.prog ops Q (o :: rest) a w := by
  subst hz
  obtain ⟨i0, hi, hz0, hz1, hz2⟩ := info_parts info_int
  refine wpList_append_own w hgd s x 29 ho base 3 i0 _ 1 8 Try.underlying29 hi hz0 hz1 hz2 rfl (by decide) v zs.length _ hs hown ⟨b, 0, none⟩ 1 1 [.int .i64 q] hx rfl (World.news_of_block (cs := #[.int .i64 q]) hnew) (by simp [Value.oneCell'])
    (by unfold maxLen; omega) (by omega) hbase ?_
  intro v' w' h1 h2 _
  have h3 : OwnI w' base v' (zs ++ [q]) := by
    unfold OwnI
    rw [List.length_append, List.map_append]
    exact h1
  obtain ⟨A, c, e⟩ := h3.shape
  rw [List.length_append, List.length_singleton] at e
  rw [e] at h3 ⊢
  exact h A c w' h3 h2
end
end Go.Proofs.Ytkgabnhfjmldbaa
