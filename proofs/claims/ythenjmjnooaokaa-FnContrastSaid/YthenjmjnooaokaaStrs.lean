/- Slices of structs of integers: those that are read, and those that the call itself made. -/
import Derived.Test.YthenjmjnooaokaaOnly
namespace Go.Proofs.Ythenjmjnooaokaa
open Go.ChangeShapes Go.WideShapes Go.ChangeAt Go.RowKit
/-- A slice of structs of m integers that is read; only its own numbers are known to fit. -/
def RowP (m : Nat) (w : World) (B : Nat) (A : Option Addr) (n c : Nat) (f : Nat → Nat → Int) : Prop :=
  n ≤ c ∧ c ≤ maxLen ∧ (∀ i, i < n → ∀ j, j < m → (Lit.int .i64 (f i j)).wf = true) ∧
  (0 < n → ∃ b off, A = some ⟨b, off, none⟩ ∧ b < B ∧ ∀ i, i < n → ∀ j, j < m → w.cell? ⟨b, off + (i * m + j), none⟩ = some (.int .i64 (f i j)))
section
variable {w w' : World} {B B' n c m : Nat} {A : Option Addr} {f : Nat → Nat → Int}
theorem RowS.rowP (h : RowS m w B A n c f) : RowP m w B A n c f := ⟨h.1, h.2.1, fun i _ j _ => h.2.2.1 i j, h.2.2.2⟩
theorem RowP.cap (h : RowP m w B A n c f) : n ≤ c ∧ c ≤ maxLen := ⟨h.1, h.2.1⟩
theorem RowP.wf (h : RowP m w B A n c f) {i j : Nat} (hi : i < n) (hj : j < m) : (Lit.int .i64 (f i j)).wf = true := h.2.2.1 i hi j hj
theorem RowP.at_ (h : RowP m w B A n c f) {i : Nat} (hi : i < n) : ∃ b off, A = some ⟨b, off, none⟩ ∧ b < B ∧ ∀ j, j < m → w.cell? ⟨b, off + (i * m + j), none⟩ = some (.int .i64 (f i j)) := by
  obtain ⟨b, off, e, hb, hc⟩ := h.2.2.2 (by omega)
  exact ⟨b, off, e, hb, hc i hi⟩
theorem RowP.keep (h : RowP m w B A n c f) (hk : ∀ p : Addr, p.block < B → w'.cell? p = w.cell? p) : RowP m w' B A n c f :=
  ⟨h.1, h.2.1, h.2.2.1, fun hn => by
    obtain ⟨b, off, e, hb, hc⟩ := h.2.2.2 hn
    exact ⟨b, off, e, hb, fun i hi j hj => (hk _ hb).trans (hc i hi j hj)⟩⟩
theorem RowP.below (h : RowP m w B A n c f) (hb : Below B w w') : RowP m w' B A n c f := h.keep fun _ hp => hb.cell hp
theorem RowP.below' {B2 : Nat} (h : RowP m w B A n c f) (hb : Below B2 w w') (hB : B ≤ B2) : RowP m w' B A n c f := h.keep fun _ hp => hb.cell (by omega)
theorem RowP.more (h : RowP m w B A n c f) (hB : B ≤ B') : RowP m w B' A n c f :=
  ⟨h.1, h.2.1, h.2.2.1, fun hn => by
    obtain ⟨b, off, e, hb, hc⟩ := h.2.2.2 hn
    exact ⟨b, off, e, by omega, hc⟩⟩
end
/-- the cells of n structs of m integers -/
def flatS (m n : Nat) (f : Nat → Nat → Int) : List Value := (List.range (n * m)).map fun q => Value.int .i64 (f (q / m) (q % m))
theorem flatS_len (m n : Nat) (f : Nat → Nat → Int) : (flatS m n f).length = n * m := by simp [flatS]
theorem place_lt {m n i j : Nat} (hi : i < n) (hj : j < m) : i * m + j < n * m := by
  have h1 : (i + 1) * m ≤ n * m := Nat.mul_le_mul_right m (by omega)
  rw [Nat.succ_mul] at h1
  omega
theorem place_div {m i j : Nat} (hj : j < m) : (i * m + j) / m = i ∧ (i * m + j) % m = j := by
  constructor
  · rw [Nat.add_comm, Nat.add_mul_div_right _ _ (by omega), Nat.div_eq_of_lt hj, Nat.zero_add]
  · rw [Nat.add_comm, Nat.add_mul_mod_self_right, Nat.mod_eq_of_lt hj]
theorem flatS_get {m n : Nat} (f : Nat → Nat → Int) {i j : Nat} (hi : i < n) (hj : j < m) : (flatS m n f)[i * m + j]? = some (.int .i64 (f i j)) := by
  have h := place_lt hi hj
  obtain ⟨h1, h2⟩ := place_div (i := i) hj
  simp [flatS, h, h1, h2]
def upd2 (f : Nat → Nat → Int) (i j : Nat) (x : Int) : Nat → Nat → Int := fun a b => if a = i ∧ b = j then x else f a b
theorem flatS_set {m n : Nat} (f : Nat → Nat → Int) {i j : Nat} (x : Int) (hj : j < m) : (flatS m n f).set (i * m + j) (.int .i64 x) = flatS m n (upd2 f i j x) := by
  apply List.ext_getElem
  · simp [flatS]
  · intro q h1 h2
    rw [List.getElem_set]
    simp only [flatS, List.getElem_map, List.getElem_range]
    by_cases e : i * m + j = q
    · rw [if_pos e]
      obtain ⟨d1, d2⟩ := place_div (i := i) hj
      subst e
      rw [d1, d2]
      simp [upd2]
    · rw [if_neg e]
      have : ¬ (q / m = i ∧ q % m = j) := by
        rintro ⟨d1, d2⟩
        apply e
        rw [← d1, ← d2, Nat.mul_comm]
        exact Nat.div_add_mod q m
      simp only [upd2, if_neg this]
theorem flatS_congr {m n : Nat} {f f' : Nat → Nat → Int} (hm : 0 < m) (h : ∀ i, i < n → ∀ j, j < m → f i j = f' i j) : flatS m n f = flatS m n f' := by
  apply List.map_congr_left
  intro q hq
  rw [List.mem_range] at hq
  rw [h (q / m) (Nat.div_lt_of_lt_mul (by rw [Nat.mul_comm]; exact hq)) (q % m) (Nat.mod_lt _ hm)]
theorem flatS_snoc {m n : Nat} (f : Nat → Nat → Int) (hm : 0 < m) : flatS m (n + 1) f = flatS m n f ++ (List.range m).map fun j => Value.int .i64 (f n j) := by
  apply List.ext_getElem
  · simp [flatS, Nat.succ_mul]
  · intro q h1 h2
    rw [List.getElem_append]
    split
    · simp [flatS]
    · rename_i hq
      simp only [flatS_len] at hq h1
      rw [Nat.succ_mul] at h1
      have e : q = n * m + (q - n * m) := by omega
      obtain ⟨d1, d2⟩ := place_div (m := m) (i := n) (j := q - n * m) (by omega)
      rw [← e] at d1 d2
      simp [flatS, d1, d2]
/-- A slice of structs of m integers that the call itself made. -/
def OwnS (m e : Nat) (w : World) (base : Nat) (v : Value) (n : Nat) (f : Nat → Nat → Int) : Prop := w.ownsRow base e m v n (flatS m n f)
section
variable {m e : Nat} {w w' : World} {base g n c : Nat} {A : Option Addr} {v : Value} {f f' : Nat → Nat → Int}
theorem OwnS.congr (h : OwnS m e w base v n f) (hm : 0 < m) (hf : ∀ i, i < n → ∀ j, j < m → f i j = f' i j) : OwnS m e w base v n f' := by
  unfold OwnS
  rw [← flatS_congr hm hf]
  exact h
theorem OwnS.cellAt (h : OwnS m e w base (.slice (some ⟨g, 0, none⟩) n c) n f) {i j : Nat} (hi : i < n) (hj : j < m) : w.cell? ⟨g, i * m + j, none⟩ = some (.int .i64 (f i j)) := by
  rw [World.ownsRow.cellAt h _ (place_lt hi hj), flatS_get f hi hj]
theorem OwnS.frozenAt (h : OwnS m e w base (.slice (some ⟨g, 0, none⟩) n c) n f) (j : Nat) : w.frozen? ⟨g, j, none⟩ = false := World.ownsRow.frozenAt h j
theorem OwnS.stored (h : OwnS m e w base (.slice (some ⟨g, 0, none⟩) n c) n f) {i j : Nat} (hj : j < m) (x : Int) :
    OwnS m e (w.setCell ⟨g, i * m + j, none⟩ (.int .i64 x)) base (.slice (some ⟨g, 0, none⟩) n c) n (upd2 f i j x) := by
  have := (World.ownsRow.stored h (i * m + j) (.int .i64 x)).1
  unfold OwnS
  rw [← flatS_set f x hj]
  exact this
theorem OwnS.below {B : Nat} (h : OwnS m e w base v n f) (hb : Below B w w') (hB : ∀ k, v.ownBlock = some k → k < B) : OwnS m e w' base v n f := row_keep h fun k hk => hb.block k (hB k hk)
theorem OwnS.keep (h : OwnS m e w base v n f) (hb : Below w.heap.size w w') : OwnS m e w' base v n f := h.below hb fun k hk => (World.ownsRow.lt h k hk).2
theorem OwnS.setOther {p : Addr} {x : Value} (h : OwnS m e w base v n f) (hne : ∀ k, v.ownBlock = some k → p.block ≠ k) : OwnS m e (w.setCell p x) base v n f :=
  row_keep h fun k hk => Below.heap_setCell w p x k (fun e => hne k hk e.symm)
theorem OwnS.alloc (h : OwnS m e w base v n f) (o : Obj) : OwnS m e (w.alloc o) base v n f := World.ownsRow.alloc h o
theorem OwnS.drew (h : OwnS m e w base v n f) : OwnS m e w.drew base v n f := h
theorem OwnS.base_ {base' : Nat} (h : OwnS m e w base v n f) (hb : base' ≤ base) : OwnS m e w base' v n f := by
  refine ⟨h.1, ?_⟩
  rcases h.2 with hn | ⟨g, cap, cur, hv, hbb, rest⟩
  · exact .inl hn
  · exact .inr ⟨g, cap, cur, hv, by omega, rest⟩
theorem OwnS.shape (h : OwnS m e w base v n f) : ∃ A c, v = .slice A n c := by
  rcases h.2 with ⟨h', hn⟩ | ⟨g', cap', cur, h', _⟩
  · exact ⟨none, 0, by rw [hn]; exact h'⟩
  · exact ⟨_, _, h'⟩
theorem OwnS.form (h : OwnS m e w base (.slice A n c) n f) : A = none ∧ n = 0 ∨ ∃ g, A = some ⟨g, 0, none⟩ := by
  rcases h.2 with ⟨h', hn⟩ | ⟨g', cap', cur, h', _⟩
  · simp only [Value.slice.injEq] at h'
    exact .inl ⟨h'.1, hn⟩
  · simp only [Value.slice.injEq] at h'
    exact .inr ⟨g', h'.1⟩
theorem OwnS.some_ (h : OwnS m e w base (.slice A n c) n f) (hn : 0 < n) : ∃ g, A = some ⟨g, 0, none⟩ := by
  rcases h.form with ⟨_, h2⟩ | h2
  · omega
  · exact h2
theorem OwnS.ge (h : OwnS m e w base (.slice (some ⟨g, 0, none⟩) n c) n f) : base ≤ g ∧ g < w.heap.size := World.ownsRow.lt h g rfl
theorem OwnS.ge' (h : OwnS m e w base (.slice A n c) n f) : ∀ k, blk A = some k → base ≤ k ∧ k < w.heap.size := by
  intro k hk
  refine World.ownsRow.lt h k ?_
  cases A with
  | none => cases hk
  | some a => exact hk
theorem OwnS.rowP (h : OwnS m e w base (.slice A n c) n f) (hw : ∀ i, i < n → ∀ j, j < m → (Lit.int .i64 (f i j)).wf = true) : RowP m w w.heap.size A n c f := by
  have hcap : n ≤ c ∧ c ≤ maxLen := by
    rcases h.2 with ⟨h', hn⟩ | ⟨g, cap, cur, h', _, _, hnc, hcm, _⟩
    · simp only [Value.slice.injEq] at h'
      obtain ⟨_, _, rfl⟩ := h'
      exact ⟨by omega, Nat.zero_le _⟩
    · simp only [Value.slice.injEq] at h'
      obtain ⟨_, _, rfl⟩ := h'
      exact ⟨hnc, hcm⟩
  refine ⟨hcap.1, hcap.2, hw, fun hn => ?_⟩
  obtain ⟨g, rfl⟩ := h.some_ hn
  exact ⟨g, 0, rfl, h.ge.2, fun i hi j hj => by rw [Nat.zero_add]; exact h.cellAt hi hj⟩
theorem OwnS.apart {A' : Option Addr} (h : OwnS m e w base (.slice A n c) n f) (hg : w.grownBy w' (blk A')) (hne : ∀ k, blk A = some k → blk A' = some k → False) : OwnS m e w' base (.slice A n c) n f := by
  refine row_keep h fun k hk => ?_
  have hk' : blk A = some k := by
    cases A with
    | none => cases hk
    | some a => exact hk
  exact hg.block k (World.ownsRow.lt h k hk).2 fun e => hne k hk' e.symm
theorem OwnS.only {lo hi : Nat} (h : OwnS m e w base (.slice A n c) n f) (ho : OnlyIn lo hi w w') (hne : ∀ k, blk A = some k → k < lo ∨ hi ≤ k) : OwnS m e w' base (.slice A n c) n f := by
  refine row_keep h fun k hk => ?_
  have hk' : blk A = some k := by
    cases A with
    | none => cases hk
    | some a => exact hk
  exact ho.block k (World.ownsRow.lt h k hk).2 (hne k hk')
end
theorem ownS_nil (m e : Nat) (w : World) (base : Nat) (f : Nat → Nat → Int) : OwnS m e w base (.slice none 0 0) 0 f :=
  ⟨by simp [flatS], .inl ⟨rfl, rfl⟩⟩
theorem ownS_empty (m e : Nat) (w : World) (f : Nat → Nat → Int) : OwnS m e (w.alloc (.cells #[] e)) w.heap.size (.slice (some ⟨w.heap.size, 0, none⟩) 0 0) 0 f := by
  have := World.ownsRow_lit (e := e) (size := m) w #[] 0 (Nat.le_refl _) (Nat.zero_le _) (by simp)
  unfold OwnS
  simpa [flatS] using this
theorem ownS_made {m e : Nat} {w : World} {base g n : Nat} {z : Array Value} (hz : z.size = m) (hm : 0 < m) (h0 : ∀ j, j < m → z[j]! = .int .i64 0) (h : w.ownsRow base e m (.slice (some ⟨g, 0, none⟩) n n) n (madeCells z (n * m)).toList) :
    OwnS m e w base (.slice (some ⟨g, 0, none⟩) n n) n (fun _ _ => 0) := by
  have e1 : (madeCells z (n * m)).toList = flatS m n (fun _ _ => 0) := by
    apply List.ext_getElem
    · simp [madeCells, flatS]
    · intro q h1 h2
      simp only [madeCells, flatS, Array.toList_map, List.getElem_map, List.getElem_range, Array.toList_range, hz]
      exact h0 _ (Nat.mod_lt _ hm)
  unfold OwnS
  rw [← e1]
  exact h
/-- the first k structs as in f, the others zero -/
def partS (f : Nat → Nat → Int) (k : Nat) : Nat → Nat → Int := fun i j => if i < k then f i j else 0
/-- the numbers k, k + 1, .. , m to a struct -/
def marksS (m : Nat) (k : Int) : Nat → Nat → Int := fun i j => k + (i * m + j : Nat)
/-- the first i structs are marked, the others as they were -/
def markedS (m : Nat) (k : Int) (f : Nat → Nat → Int) (i : Nat) : Nat → Nat → Int := fun a b => if a < i then marksS m k a b else f a b
theorem marksS_wf {m n : Nat} {k : Int} (hk : 0 ≤ k) (hk2 : k ≤ 1000000000) (hn : n * m ≤ 100000000) : ∀ i, i < n → ∀ j, j < m → (Lit.int .i64 (marksS m k i j)).wf = true := by
  intro i hi j hj
  have h := place_lt hi hj
  unfold marksS
  exact WalkArith.wf_i64 (by omega)
end Go.Proofs.Ythenjmjnooaokaa
