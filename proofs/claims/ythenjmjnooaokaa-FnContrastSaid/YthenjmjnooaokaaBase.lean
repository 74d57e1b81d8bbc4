/- Words for memory: a slice of integers, a slice of structs of integers, a slice of slices that are read; rows of the call's own. No program in sight. -/
import Derived.WalkKit
import Derived.ProofKit
import Derived.OpenShut
import Derived.ShutString
import Derived.Lib.SmallJoins
import Derived.Deep.Slices
import Derived.Deep.Matrix
import Derived.Lib.Hide
import Derived.WalkLawsBesides
namespace Go.Proofs.Ythenjmjnooaokaa
open Go.ChangeShapes Go.WideShapes Go.ChangeAt Go.RowKit Go.Joins Go.Deep

/-- The i-th number of a list; 0 behind its end. -/
def nth (zs : List Int) (i : Nat) : Int := zs.getD i 0
theorem nth_mem {zs : List Int} {i : Nat} (h : i < zs.length) : nth zs i ∈ zs := by
  simp [nth, List.getD, h]
theorem nth_eq {zs : List Int} {i : Nat} (h : i < zs.length) : nth zs i = zs[i] := by simp [nth, List.getD, h]
theorem nth_get? {zs : List Int} {i : Nat} (h : i < zs.length) : zs[i]? = some (nth zs i) := by simp [nth, List.getD, h]
theorem list_ext_nth {xs ys : List Int} (hl : xs.length = ys.length) (h : ∀ i, i < xs.length → nth xs i = nth ys i) : xs = ys := by
  apply List.ext_getElem hl
  intro i h1 h2
  have := h i h1
  rwa [nth_eq h1, nth_eq h2] at this
theorem nth_take {zs : List Int} {i n : Nat} (h : i < n) : nth (zs.take n) i = nth zs i := by
  simp [nth, List.getD, h]
theorem nth_append_l {xs ys : List Int} {i : Nat} (h : i < xs.length) : nth (xs ++ ys) i = nth xs i := by
  simp only [nth, List.getD, List.getElem?_append_left h]
theorem nth_append_r {xs ys : List Int} {i : Nat} (h : xs.length ≤ i) : nth (xs ++ ys) i = nth ys (i - xs.length) := by
  simp [nth, List.getD, List.getElem?_append_right h]
theorem nth_snoc {xs : List Int} {y : Int} : nth (xs ++ [y]) xs.length = y := by simp [nth, List.getD]
theorem nth_map_range {f : Nat → Int} {n i : Nat} (h : i < n) : nth ((List.range n).map f) i = f i := by
  simp [nth, List.getD, h]
theorem nth_replicate {n i : Nat} {x : Int} (h : i < n) : nth (List.replicate n x) i = x := by
  simp [nth, List.getD, h]
theorem nth_set {xs : List Int} {i j : Nat} {y : Int} (h : i < xs.length) : nth (xs.set i y) j = if j = i then y else nth xs j := by
  by_cases e : j = i
  · subst e; simp [nth, List.getD, h]
  · simp [nth, List.getD, e, List.getElem?_set_ne (Ne.symm e)]
theorem take_succ_nth {xs : List Int} {k : Nat} (h : k < xs.length) : xs.take (k + 1) = xs.take k ++ [nth xs k] := by
  rw [List.take_succ_eq_append_getElem h, nth_eq h]

def Fits (z : Int) : Prop := -9223372036854775808 ≤ z ∧ z ≤ 9223372036854775807
theorem fits_of_wf {z : Int} (h : (Lit.int .i64 z).wf = true) : Fits z := bounds_i64 h
theorem Fits.out {z : Int} (h : Fits z) : -9223372036854775808 ≤ z ∧ z ≤ 9223372036854775807 := h

/-- A slice of integers that is read: its elements, below block B. -/
def RowI (k : IntKind) (w : World) (B : Nat) (A : Option Addr) (n c : Nat) (zs : List Int) : Prop :=
  zs.length = n ∧ n ≤ c ∧ c ≤ maxLen ∧ (∀ z ∈ zs, (Lit.int k z).wf = true) ∧
  (0 < n → ∃ b off, A = some ⟨b, off, none⟩ ∧ b < B ∧ ∀ j, j < n → w.cell? ⟨b, off + j, none⟩ = some (.int k (nth zs j)))
/-- A slice of structs of m integers that is read. -/
def RowS (m : Nat) (w : World) (B : Nat) (A : Option Addr) (n c : Nat) (f : Nat → Nat → Int) : Prop :=
  n ≤ c ∧ c ≤ maxLen ∧ (∀ i j, (Lit.int .i64 (f i j)).wf = true) ∧
  (0 < n → ∃ b off, A = some ⟨b, off, none⟩ ∧ b < B ∧ ∀ i, i < n → ∀ j, j < m → w.cell? ⟨b, off + (i * m + j), none⟩ = some (.int .i64 (f i j)))
/-- A slice of slices of integers that is read. -/
def RowII (w : World) (B : Nat) (A : Option Addr) (n c : Nat) (z : Nat → List Int) : Prop :=
  n ≤ c ∧ c ≤ maxLen ∧
  (0 < n → ∃ b off, A = some ⟨b, off, none⟩ ∧ b < B ∧ ∀ i, i < n → ∃ Ai ci, w.cell? ⟨b, off + i, none⟩ = some (.slice Ai (z i).length ci) ∧ RowI .i64 w B Ai (z i).length ci (z i))

section
variable {k : IntKind} {w w' : World} {B B' n c m : Nat} {A : Option Addr} {zs : List Int} {f : Nat → Nat → Int} {z : Nat → List Int}
theorem RowI.len (h : RowI k w B A n c zs) : zs.length = n := h.1
theorem RowI.cap (h : RowI k w B A n c zs) : n ≤ c ∧ c ≤ maxLen := ⟨h.2.1, h.2.2.1⟩
theorem RowI.wf (h : RowI k w B A n c zs) (j : Nat) (hj : j < n) : (Lit.int k (nth zs j)).wf = true := h.2.2.2.1 _ (nth_mem (by rw [h.1]; exact hj))
theorem RowI.at_ (h : RowI k w B A n c zs) {j : Nat} (hj : j < n) : ∃ b off, A = some ⟨b, off, none⟩ ∧ b < B ∧ w.cell? ⟨b, off + j, none⟩ = some (.int k (nth zs j)) := by
  obtain ⟨b, off, e, hb, hc⟩ := h.2.2.2.2 (by omega)
  exact ⟨b, off, e, hb, hc j hj⟩
theorem RowI.keep (h : RowI k w B A n c zs) (hk : ∀ p : Addr, p.block < B → w'.cell? p = w.cell? p) : RowI k w' B A n c zs :=
  ⟨h.1, h.2.1, h.2.2.1, h.2.2.2.1, fun hn => by
    obtain ⟨b, off, e, hb, hc⟩ := h.2.2.2.2 hn
    exact ⟨b, off, e, hb, fun j hj => (hk _ hb).trans (hc j hj)⟩⟩
theorem RowI.more (h : RowI k w B A n c zs) (hB : B ≤ B') : RowI k w B' A n c zs :=
  ⟨h.1, h.2.1, h.2.2.1, h.2.2.2.1, fun hn => by
    obtain ⟨b, off, e, hb, hc⟩ := h.2.2.2.2 hn
    exact ⟨b, off, e, by omega, hc⟩⟩
theorem RowI.below (h : RowI k w B A n c zs) (hb : Below B w w') : RowI k w' B A n c zs := h.keep fun _ hp => hb.cell hp
theorem RowI.drew (h : RowI k w B A n c zs) : RowI k w.drew B A n c zs := h
theorem RowS.cap (h : RowS m w B A n c f) : n ≤ c ∧ c ≤ maxLen := ⟨h.1, h.2.1⟩
theorem RowS.wf (h : RowS m w B A n c f) (i j : Nat) : (Lit.int .i64 (f i j)).wf = true := h.2.2.1 i j
theorem RowS.at_ (h : RowS m w B A n c f) {i : Nat} (hi : i < n) : ∃ b off, A = some ⟨b, off, none⟩ ∧ b < B ∧ ∀ j, j < m → w.cell? ⟨b, off + (i * m + j), none⟩ = some (.int .i64 (f i j)) := by
  obtain ⟨b, off, e, hb, hc⟩ := h.2.2.2 (by omega)
  exact ⟨b, off, e, hb, hc i hi⟩
theorem RowS.keep (h : RowS m w B A n c f) (hk : ∀ p : Addr, p.block < B → w'.cell? p = w.cell? p) : RowS m w' B A n c f :=
  ⟨h.1, h.2.1, h.2.2.1, fun hn => by
    obtain ⟨b, off, e, hb, hc⟩ := h.2.2.2 hn
    exact ⟨b, off, e, hb, fun i hi j hj => (hk _ hb).trans (hc i hi j hj)⟩⟩
theorem RowS.more (h : RowS m w B A n c f) (hB : B ≤ B') : RowS m w B' A n c f :=
  ⟨h.1, h.2.1, h.2.2.1, fun hn => by
    obtain ⟨b, off, e, hb, hc⟩ := h.2.2.2 hn
    exact ⟨b, off, e, by omega, hc⟩⟩
theorem RowS.below (h : RowS m w B A n c f) (hb : Below B w w') : RowS m w' B A n c f := h.keep fun _ hp => hb.cell hp
theorem RowII.cap (h : RowII w B A n c z) : n ≤ c ∧ c ≤ maxLen := ⟨h.1, h.2.1⟩
theorem RowII.at_ (h : RowII w B A n c z) {i : Nat} (hi : i < n) : ∃ b off, A = some ⟨b, off, none⟩ ∧ b < B ∧ ∃ Ai ci, w.cell? ⟨b, off + i, none⟩ = some (.slice Ai (z i).length ci) ∧ RowI .i64 w B Ai (z i).length ci (z i) := by
  obtain ⟨b, off, e, hb, hc⟩ := h.2.2 (by omega)
  exact ⟨b, off, e, hb, hc i hi⟩
theorem RowII.keep (h : RowII w B A n c z) (hk : ∀ p : Addr, p.block < B → w'.cell? p = w.cell? p) : RowII w' B A n c z :=
  ⟨h.1, h.2.1, fun hn => by
    obtain ⟨b, off, e, hb, hc⟩ := h.2.2 hn
    refine ⟨b, off, e, hb, fun i hi => ?_⟩
    obtain ⟨Ai, ci, h1, h2⟩ := hc i hi
    exact ⟨Ai, ci, (hk _ hb).trans h1, h2.keep hk⟩⟩
theorem RowII.more (h : RowII w B A n c z) (hB : B ≤ B') : RowII w B' A n c z :=
  ⟨h.1, h.2.1, fun hn => by
    obtain ⟨b, off, e, hb, hc⟩ := h.2.2 hn
    refine ⟨b, off, e, by omega, fun i hi => ?_⟩
    obtain ⟨Ai, ci, h1, h2⟩ := hc i hi
    exact ⟨Ai, ci, h1, h2.more hB⟩⟩
theorem RowII.below (h : RowII w B A n c z) (hb : Below B w w') : RowII w' B A n c z := h.keep fun _ hp => hb.cell hp
end

section
variable {H : Type} {enc : TypeId × Value → H} {P : Program} {w : World}
theorem plain_of_cell {a : Addr} {v : Value} (h : w.cell? (a.add 0) = some v) : ∃ b off, a = ⟨b, off, none⟩ ∧ b < w.heap.size := by
  obtain ⟨b, off, spot⟩ := a
  have h' : w.cell? ⟨b, off, spot⟩ = some v := by simpa [Addr.add] using h
  have hspot : spot = none := World.cell?_spot h'
  subst hspot
  exact ⟨b, off, rfl, World.block_lt_of_cell? w _ h'⟩
theorem open_rowI {t e : TypeId} {k : IntKind} {A : Option Addr} {n c : Nat} {d : DataW H} {p : List MemPlace} (ht : P.underlying t = some (.slice e)) (he : P.underlying e = some (.int k)) (hc : P.cellsOf e = 1)
    (h : DataW.Trod enc P w 0 (fun _ => true) true t (.slice A n c) d p) : ∃ zs, RowI k w w.heap.size A n c zs := by
  obtain ⟨fuel, hf⟩ := h
  rcases open_ints ht he hc hf with ⟨hcs, _⟩ | ⟨x, l, c', zs, hcs, _, hl, hm, hz, _, hcell, hwz⟩
  · simp [Value.cells] at hcs
    obtain ⟨rfl, rfl, rfl⟩ := hcs
    exact ⟨[], rfl, Nat.le_refl _, Nat.zero_le _, by simp, fun h => absurd h (by omega)⟩
  · simp [Value.cells] at hcs
    obtain ⟨rfl, rfl, rfl⟩ := hcs
    simp only [if_true] at hz
    refine ⟨zs.take n, by simp; omega, hl, hm, fun z hz => hwz z (List.mem_of_mem_take hz), fun hn => ?_⟩
    obtain ⟨b, off, rfl, hb⟩ := plain_of_cell (hcell 0 (by omega))
    refine ⟨b, off, rfl, hb, fun j hj => ?_⟩
    rw [nth_take hj, ← add_plain]
    exact hcell j (by omega)
theorem open_rowII {t e q : TypeId} {A : Option Addr} {n c : Nat} {d : DataW H} {p : List MemPlace} (ht : P.underlying t = some (.slice e)) (he : P.underlying e = some (.slice q)) (hq : P.underlying q = some (.int .i64))
    (ce : P.cellsOf e = 1) (cq : P.cellsOf q = 1) (h : DataW.Trod enc P w 0 (fun _ => true) true t (.slice A n c) d p) : ∃ z, RowII w w.heap.size A n c z := by
  obtain ⟨fuel, hf⟩ := h
  rcases open_int_rows ht he hq ce cq hf with ⟨hcs, _⟩ | ⟨x, l, c', A', L, C, Z, hcs, _, hl, hm, _, hx⟩
  · simp [Value.cells] at hcs
    obtain ⟨rfl, rfl, rfl⟩ := hcs
    exact ⟨fun _ => [], Nat.le_refl _, Nat.zero_le _, fun h => absurd h (by omega)⟩
  · simp [Value.cells] at hcs
    obtain ⟨rfl, rfl, rfl⟩ := hcs
    refine ⟨fun i => (Z i).take (L i), hl, hm, fun hn => ?_⟩
    obtain ⟨b, off, rfl, hb⟩ := plain_of_cell (hx 0 (by omega)).1
    refine ⟨b, off, rfl, hb, fun i hi => ?_⟩
    obtain ⟨h1, h2, h3, h4, h5, h6, h7⟩ := hx i (by omega)
    have hlen : ((Z i).take (L i)).length = L i := by simp; omega
    rw [hlen]
    refine ⟨A' i, C i, by rw [← add_plain]; exact h1, hlen, h2, h3, fun z hz => h5 z (List.mem_of_mem_take hz), fun hp => ?_⟩
    cases hA : A' i with
    | none => have := h6 hA; omega
    | some a' =>
      obtain ⟨_, h8⟩ := h7 a' hA
      obtain ⟨b', off', rfl, hb'⟩ := plain_of_cell (h8 0 (by omega))
      refine ⟨b', off', rfl, hb', fun j hj => ?_⟩
      rw [nth_take hj, ← add_plain]
      exact h8 j (by omega)
theorem cell_slice {base : Nat} {spare : Nat → Bool} {held : Bool} {fuel : Nat} {t e : TypeId} {v : Value} {y : DataW H × List MemPlace} (ht : P.underlying t = some (.slice e)) (hf : DataW.trod enc P w base spare held fuel t [v] = some y) : ∃ a l c, v = .slice a l c := by
  obtain ⟨a, l, c, h⟩ := slice_form ht hf
  exact ⟨a, l, c, by simpa using h⟩
def isInt64 : Option TypeDesc → Bool | some (.int .i64) => true | _ => false
theorem isInt64_eq {d : Option TypeDesc} (h : isInt64 d = true) : d = some (.int .i64) := by
  unfold isInt64 at h
  split at h
  · rfl
  · cases h
theorem fields_of {fs : Array Field} {m : Nat} (hone : oneCellFields P fs = true) (hC : fs.size = m) (hi : (fs.all fun f => isInt64 (P.underlying f.type)) = true) (j : Nat) (hj : j < m) :
    ∃ f, fs[j]? = some f ∧ f.offset = j ∧ P.cellsOf f.type = 1 ∧ P.underlying f.type = some (.int .i64) := by
  have hj' : j < fs.size := by omega
  refine ⟨fs[j], by simp [hj'], (hone_of hone j fs[j] (by simp [hj'])).1, (hone_of hone j fs[j] (by simp [hj'])).2, ?_⟩
  exact isInt64_eq (Array.all_eq_true.1 hi j hj')
theorem open_rowS {m : Nat} {t e : TypeId} {fs : Array Field} {A : Option Addr} {n c : Nat} {d : DataW H} {p : List MemPlace} (ht : P.underlying t = some (.slice e)) (he : P.underlying e = some (.struct fs)) (hone : oneCellFields P fs = true)
    (hC : fs.size = m) (hi : (fs.all fun f => isInt64 (P.underlying f.type)) = true) (hE : P.cellsOf e = m) (hm0 : 0 < m) (h : DataW.Trod enc P w 0 (fun _ => true) true t (.slice A n c) d p) : ∃ f, RowS m w w.heap.size A n c f := by
  obtain ⟨fuel, hf⟩ := h
  rcases open_slice ht hf with ⟨hcs, _⟩ | ⟨a, l, c', mm, nn, D, Pl, hcs, _, hl, hm, hmm, _, hx⟩
  · simp [Value.cells] at hcs
    obtain ⟨rfl, rfl, rfl⟩ := hcs
    exact ⟨fun _ _ => 0, Nat.le_refl _, Nat.zero_le _, fun _ _ => rfl, fun h => absurd h (by omega)⟩
  · simp [Value.cells] at hcs
    obtain ⟨rfl, rfl, rfl⟩ := hcs
    simp only [if_true] at hmm
    subst hmm
    have each : ∀ i, i < n → ∃ g : Nat → Int, (∀ j, (Lit.int .i64 (g j)).wf = true) ∧ ∀ j, j < m → w.cell? (a.add (i * m + j)) = some (.int .i64 (g j)) := by
      intro i hin
      obtain ⟨cs', h1, h2⟩ := hx i (by omega)
      rw [hE] at h1
      obtain ⟨ys, n', _, _, hlen, _, hfl⟩ := DataW.trod_struct he h2
      obtain ⟨_, hcl, hat⟩ := World.cells?_some h1
      have one : ∀ j, j < m → ∃ q : Int, (Lit.int .i64 q).wf = true ∧ w.cell? (a.add (i * m + j)) = some (.int .i64 q) := by
        intro j hj
        obtain ⟨fd, hfd, ho, hk, hu⟩ := fields_of hone hC hi j hj
        have hv : cs'[j]? = some (cs'[j]'(by omega)) := List.getElem?_eq_getElem (by omega)
        have h3 := hfl j fd hfd
        rw [ho, hk] at h3
        have h4 : (cs'.drop j).take 1 = [cs'[j]'(by omega)] := by
          rw [List.drop_eq_getElem_cons (by omega)]; rfl
        rw [h4] at h3
        have hys : ∃ y, ys[j]? = some y := by
          cases hy : ys[j]? with
          | some y => exact ⟨y, rfl⟩
          | none => rw [hy] at h3; exact absurd h3 (by intro hh; have := List.getElem?_eq_none_iff.1 hy; have hj2 := (Array.getElem?_eq_some_iff.1 hfd).1; omega)
        obtain ⟨y, hy⟩ := hys
        rw [hy] at h3
        obtain ⟨q, e1, _, e2⟩ := DataW.trod_int hu h3
        refine ⟨q, e2, ?_⟩
        have := hat j hj
        rw [Go.Deep.add_add] at this
        rw [this, hv]
        simpa using e1
      obtain ⟨g, hg⟩ := choose_lt one
      refine ⟨fun j => if j < m then g j else 0, fun j => ?_, fun j hj => ?_⟩
      · by_cases hj : j < m
        · simp only [hj, if_true]; exact (hg j hj).1
        · simp only [hj, if_false]; rfl
      · simp only [hj, if_true]; exact (hg j hj).2
    haveI : Inhabited (Nat → Int) := ⟨fun _ => 0⟩
    obtain ⟨F, hF⟩ := choose_lt each
    refine ⟨fun i => if i < n then F i else fun _ => 0, hl, hm, fun i j => ?_, fun hn => ?_⟩
    · by_cases hi' : i < n
      · simp only [hi', if_true]; exact (hF i hi').1 j
      · simp only [hi', if_false]; rfl
    · obtain ⟨b, off, rfl, hb⟩ := plain_of_cell (by simpa using (hF 0 hn).2 0 (by omega))
      refine ⟨b, off, rfl, hb, fun i hi' j hj => ?_⟩
      simp only [hi', if_true]
      rw [← add_plain]
      exact (hF i hi').2 j hj
end
/-- A callee that was called behind a draw. -/
theorem below_drew {W W' : World} (h : Below W.drew.heap.size W.drew W') : Below W.heap.size W W' := ⟨h.os, h.tape, h.output, h.size, h.block⟩
/-- What 'Below' gives the walk: old cells and old marks, as two rules. -/
theorem bcell {B : Nat} {W W' : World} (h : Below B W W') : (∀ b o, b < B → W'.cell? ⟨b, o, none⟩ = W.cell? ⟨b, o, none⟩) ∧ (∀ b o, b < B → W'.frozen? ⟨b, o, none⟩ = W.frozen? ⟨b, o, none⟩) :=
  ⟨fun b o hb => h.cell (p := ⟨b, o, none⟩) hb, fun b o hb => h.frozen (p := ⟨b, o, none⟩) hb⟩
end Go.Proofs.Ythenjmjnooaokaa
