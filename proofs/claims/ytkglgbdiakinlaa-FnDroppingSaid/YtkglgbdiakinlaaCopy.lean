/- Copies of slices of integers and of slices of slices: append of a whole slice to one of the call's own. -/
import Derived.Test.YtkglgbdiakinlaaRii2
namespace Go.Proofs.Ytkglgbdiakinlaa
open Go.ChangeShapes Go.WideShapes Go.ChangeAt Go.RowKit Go.Deep
section
variable {ops : Array Oper} {rest : List Oper} {o : Oper} {a : Act} {Q : Exit → Act → World → Prop} {w : World}
theorem news_of_row {B n c : Nat} {ad : Addr} {ys : List Int} (hr : RowI .i64 w B (some ad) n c ys) (hp : 0 < n) : ∀ j u, (ys.map (Value.int .i64))[j]? = some u → w.cell? (ad.add j) = some u := by
  intro j u hu
  obtain ⟨b, off, e, _, hc⟩ := hr.2.2.2.2 hp
  simp only [Option.some.injEq] at e
  subst e
  have hj : j < n := by
    have := (List.getElem?_eq_some_iff.1 hu).1
    rw [List.length_map, hr.len] at this
    exact this
  rw [map_nth ys j (by rw [hr.len]; exact hj)] at hu
  rw [add_plain, hc j hj]
  exact hu
/-- append(out, list...) in a plain region -/
theorem app_list (hgd : o.guard = none) (s x : Operand) (ho : o.op = .call { callee := .builtin .append, args := #[s, x], argTypes := #[27, 27] })
    (base : Nat) (v : Value) (zs : List Int) (ad : Addr) (n c B : Nat) (ys : List Int) (hs : a.eval s = v) (hown : OwnI w base v zs) (hx : a.eval x = .slice (some ad) n c)
    (hr : RowI .i64 w B (some ad) n c ys) (hp : 0 < n) (hn : zs.length + n ≤ 1073741824) (hbase : base ≤ w.heap.size)
    (h : ∀ A c2 w', OwnI w' base (.slice A (zs.length + n) c2) (zs ++ ys) → Below base w w' → wpList Try.prog ops Q rest (a.put o.dst (.slice A (zs.length + n) c2)) w') : wpList Try.prog ops Q (o :: rest) a w := by
  obtain ⟨i0, hi, hz0, hz1, hz2⟩ := info_parts info_int
  refine wpList_append_own w hgd s x 27 ho base 3 i0 _ 1 8 Try.underlying27 hi hz0 hz1 hz2 rfl (by decide) v zs.length _ hs hown ad n c (ys.map (Value.int .i64)) hx (by rw [List.length_map, hr.len, Nat.mul_one]) (news_of_row hr hp) ?_
    (by unfold maxLen; omega) (by omega) hbase ?_
  · intro u hu
    obtain ⟨q, _, rfl⟩ := List.mem_map.1 hu
    rfl
  · intro v' w' h1 h2 _
    have h3 : OwnI w' base v' (zs ++ ys) := by
      unfold OwnI
      rw [List.length_append, hr.len, List.map_append]
      exact h1
    obtain ⟨A, c2, e⟩ := h3.shape
    rw [List.length_append, hr.len] at e
    rw [e] at h3 ⊢
    exact h A c2 w' h3 (own_below hown hbase h2)
end
theorem copy_any (A : Option Addr) (n c : Nat) (zs : List Int) (B : Nat) (w : World) (hr : RowI .i64 w B A n c zs) (hB : B ≤ w.heap.size) (hp : 0 < n) (hn : n ≤ 1000000) :
    Calls Try.prog 70 #[.slice A n c] w fun e w' => ∃ A2 c2, e = .returned (.slice A2 n c2) ∧ OwnI w' w.heap.size (.slice A2 n c2) zs ∧ Below w.heap.size w w' := by
  obtain ⟨b, off, rfl, hb, hx⟩ := hr.2.2.2.2 hp
  clear hx
  have hr2 : RowI .i64 (w.alloc (.cells #[] 3)) B (some ⟨b, off, none⟩) n c zs := hr.keep fun p hp => ((Below.refl _ _).alloc (Nat.le_refl _) _).cell (by omega)
  go_enter Try.func70, Try.ntmps70
  go_wp2_with (at_builtin; refine app_list rfl _ _ rfl w.heap.size _ [] ⟨b, off, none⟩ n c B zs rfl (own_empty w) rfl hr2 hp (by simp; omega) (by simp) ?_; intro A4 c4 w4 ho4 hb4)
  have hb5 := ((Below.refl _ w).alloc (Nat.le_refl _) (.cells #[] 3)).trans hb4
  rw [List.nil_append, show ([] : List Int).length + n = n by simp] at ho4
  clear hb4
  go_wp2
  go_ret
  exact ⟨A4, c4, rfl, ho4, hb5⟩
set_option maxHeartbeats 4000000 in
theorem copyRows_any (A : Option Addr) (n c : Nat) (z : Nat → List Int) (B : Nat) (w : World) (h : RowII w B A n c z) (hB : B ≤ w.heap.size) (hn : n ≤ 1000000) (hp : ∀ j, j < n → 0 < (z j).length ∧ (z j).length ≤ 1000000) :
    Calls Try.prog 64 #[.slice A n c] w fun e w' => ∃ A2 c2, e = .returned (.slice A2 n c2) ∧ OwnII w' w.heap.size w'.heap.size (.slice A2 n c2) n z ∧ Below w.heap.size w w' := by
  have hcap := h.cap
  unfold maxLen at hcap
  have HP := Lib.hid hp
  clear hp
  go_enter Try.func64, Try.ntmps64
  go_wp2_with fail
  go_loopw [3, 5, 9] (fun v _ i wr => ∃ r : Nat, r ≤ n ∧ i = .int .i64 r ∧ OwnII wr w.heap.size wr.heap.size v r z ∧ Below w.heap.size w wr) (fun _ _ i _ => n - (intOf i).toNat)
  case atStart => exact ⟨0, by omega, rfl, (ownII_empty w _).more (by simp), (Below.refl _ _).alloc (Nat.le_refl _) _⟩
  case round =>
    obtain ⟨r, hr, rfl, hown, hb⟩ := hrel
    have hbw := hb.size
    by_cases hlt : r < n
    · have h2 : RowII wr B A n c z := h.keep fun p hp => hb.cell (by omega)
      obtain ⟨b, off, rfl, hbB, Aj, cj, hcj, hrj⟩ := h2.at_ hlt
      have hpj := HP.out r hlt
      have r0 : (0 : Int) ≤ (r : Int) := by omega
      have r3 : (r : Int) < (n : Int) := by omega
      clear h2
      go_wp2_with fail
      refine (copy_any Aj (z r).length cj (z r) B _ hrj (by omega) hpj.1 hpj.2).mono ?_
      rintro e w4 ⟨A4, c4, rfl, ho4, hb4⟩
      have hown2 := hown.keep hb4
      have hz4 := hb4.size
      have hb5 := hb.trans (hb4.mono hbw)
      clear hown hb4 hb hrj hcj
      go_wp2_with (at_builtin; (refine appII_plain rfl _ _ rfl w.heap.size wr.heap.size r _ _ z w4.heap.size rfl (ownII_alloc hown2 _) (ho4.alloc _) hbw rfl (heap_alloc_new w4 _) (by omega) (by simp; omega) ?_); intro v6 w6 ho6 hb6)
      have hb7 := (hb5.alloc (by omega) _).trans hb6
      clear hb6 hb5 hown2 ho4
      go_wp2
      go_roundw
      case rel => exact ⟨r + 1, by omega, by go_num, ho6, hb7⟩
      case measure => simp [intOf]; omega
    · obtain rfl : r = n := by omega
      have r3 : ¬ (r : Int) < (r : Int) := by omega
      obtain ⟨A2, c2, hv⟩ := hown.shape
      have HV := Lib.hid hv
      clear hv
      go_wp2
      go_ret
      rw [HV.out] at hown
      exact ⟨A2, c2, by rw [HV.out]; rfl, hown, hb⟩
end Go.Proofs.Ytkglgbdiakinlaa
