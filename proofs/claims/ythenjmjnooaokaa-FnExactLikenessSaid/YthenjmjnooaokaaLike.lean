/- Contracts of Likeness: the program's and the reference's. -/
import Derived.Test.YthenjmjnooaokaaBlock
import Derived.Test.YthenjmjnooaokaaPureLk
import Derived.Deep.RegionHeld3
namespace Go.Proofs.Ythenjmjnooaokaa
open Go.ChangeShapes Go.WideShapes Go.ChangeAt Go.RowKit
set_option maxHeartbeats 4000000 in
theorem impl_pair (s : Int) (A : Option Addr) (n c : Nat) (f : Nat → Nat → Int) (s2 : Int) (A2 : Option Addr) (n2 c2 : Nat) (g : Nat → Nat → Int) (B : Nat) (w : World) (h : RowP 3 w B A n c f) (h' : RowP 3 w B A2 n2 c2 g) (hB : B ≤ w.heap.size) :
    Calls Try.prog 58 #[.agg #[.int .i64 s, .slice A n c], .agg #[.int .i64 s2, .slice A2 n2 c2]] w fun e w' => e = .returned (.bool (pairOk s n f s2 n2 g)) ∧ Below w.heap.size w w' := by
  have hb0 : Below w.heap.size w ((w.alloc (.cells #[.int .i64 s, .slice A n c] 31)).alloc (.cells #[.int .i64 s2, .slice A2 n2 c2] 31)) := ((Below.refl _ _).alloc (Nat.le_refl _) _).alloc (by simp) _
  have hx0 : BoxB ((w.alloc (.cells #[.int .i64 s, .slice A n c] 31)).alloc (.cells #[.int .i64 s2, .slice A2 n2 c2] 31)) w.heap.size s (.slice A n c) := ⟨by simp <;> omega, by go_simp, by go_simp⟩
  have hy0 : BoxB ((w.alloc (.cells #[.int .i64 s, .slice A n c] 31)).alloc (.cells #[.int .i64 s2, .slice A2 n2 c2] 31)) (w.heap.size + 1) s2 (.slice A2 n2 c2) := ⟨by simp, by go_simp, by go_simp⟩
  have h0 : RowP 3 ((w.alloc (.cells #[.int .i64 s, .slice A n c] 31)).alloc (.cells #[.int .i64 s2, .slice A2 n2 c2] 31)) B A n c f := h.keep fun p hp => hb0.cell (by omega)
  have h0' : RowP 3 ((w.alloc (.cells #[.int .i64 s, .slice A n c] 31)).alloc (.cells #[.int .i64 s2, .slice A2 n2 c2] 31)) B A2 n2 c2 g := h'.keep fun p hp => hb0.cell (by omega)
  have hz0 : ((w.alloc (.cells #[.int .i64 s, .slice A n c] 31)).alloc (.cells #[.int .i64 s2, .slice A2 n2 c2] 31)).heap.size = w.heap.size + 2 := by simp
  have hzz : w.heap.size + 2 ≤ ((w.alloc (.cells #[.int .i64 s, .slice A n c] 31)).alloc (.cells #[.int .i64 s2, .slice A2 n2 c2] 31)).heap.size := by omega
  clear hz0
  rcases Bool.eq_false_or_eq_true (blockOk s n f) with hF | hF
  · have HP := Lib.hid (show pairOk s n f s2 n2 g = (blockOk s2 n2 g && (s == s2)) by unfold pairOk; rw [hF, Bool.true_and])
    go_enter Try.func58, Try.ntmps58
    go_wp2_with fail
    refine (impl_blockOk s A n c f B _ h0 (by omega)).mono ?_
    rintro e w1 ⟨rfl, hb1⟩
    rw [hF]
    have hx1 := hx0.below hb1 (by omega)
    have hy1 := hy0.below hb1 (by omega)
    have h1' : RowP 3 w1 B A2 n2 c2 g := h0'.keep fun p hp => hb1.cell (by omega)
    have hb2 := hb0.trans (hb1.mono (by omega))
    clear hb1 hb0 hx0 hy0 h0 h0' hF hzz
    obtain ⟨xz, xc0, xc1⟩ := id hx1
    obtain ⟨yz, yc0, yc1⟩ := id hy1
    go_wp2_with fail
    refine (impl_blockOk s2 A2 n2 c2 g B _ h1' (by omega)).mono ?_
    rintro e w2 ⟨rfl, hb3⟩
    have hx2 := hx1.below hb3 xz
    have hy2 := hy1.below hb3 yz
    have hb4 := hb2.trans (hb3.mono (by omega))
    clear hb3 hb2 hx1 hy1 h1' xz xc0 xc1 yz yc0 yc1
    obtain ⟨xz, xc0, xc1⟩ := id hx2
    obtain ⟨yz, yc0, yc1⟩ := id hy2
    rcases Bool.eq_false_or_eq_true (blockOk s2 n2 g) with hG | hG
    · have HE := Lib.hid (show pairOk s n f s2 n2 g = (s == s2) by rw [HP.out, hG, Bool.true_and])
      rw [hG]
      clear hG
      go_wp2
      go_ret
      exact ⟨ret_bool HE.out.symm, hb4⟩
    · have HE := Lib.hid (show pairOk s n f s2 n2 g = false by rw [HP.out, hG, Bool.false_and])
      rw [hG]
      clear hG
      go_wp2
      go_ret
      exact ⟨ret_bool HE.out.symm, hb4⟩
  · have HE := Lib.hid (show pairOk s n f s2 n2 g = false by unfold pairOk; rw [hF]; rfl)
    go_enter Try.func58, Try.ntmps58
    go_wp2_with fail
    refine (impl_blockOk s A n c f B _ h0 (by omega)).mono ?_
    rintro e w1 ⟨rfl, hb1⟩
    rw [hF]
    have hb2 := hb0.trans (hb1.mono (by omega))
    clear hb1 hb0 hx0 hy0 h0 h0' hF hzz
    go_wp2
    go_ret
    exact ⟨ret_bool HE.out.symm, hb2⟩
set_option maxHeartbeats 4000000 in
theorem spec_pair (s : Int) (A : Option Addr) (n c : Nat) (f : Nat → Nat → Int) (s2 : Int) (A2 : Option Addr) (n2 c2 : Nat) (g : Nat → Nat → Int) (B : Nat) (w : World) (h : RowP 3 w B A n c f) (h' : RowP 3 w B A2 n2 c2 g) (hB : B ≤ w.heap.size) :
    Calls Try.prog 55 #[.agg #[.int .i64 s, .slice A n c], .agg #[.int .i64 s2, .slice A2 n2 c2]] w fun e w' => e = .returned (.bool (pairOk s n f s2 n2 g)) ∧ Below w.heap.size w w' := by
  have hb0 : Below w.heap.size w ((w.alloc (.cells #[.int .i64 s, .slice A n c] 31)).alloc (.cells #[.int .i64 s2, .slice A2 n2 c2] 31)) := ((Below.refl _ _).alloc (Nat.le_refl _) _).alloc (by simp) _
  have hx0 : BoxB ((w.alloc (.cells #[.int .i64 s, .slice A n c] 31)).alloc (.cells #[.int .i64 s2, .slice A2 n2 c2] 31)) w.heap.size s (.slice A n c) := ⟨by simp <;> omega, by go_simp, by go_simp⟩
  have hy0 : BoxB ((w.alloc (.cells #[.int .i64 s, .slice A n c] 31)).alloc (.cells #[.int .i64 s2, .slice A2 n2 c2] 31)) (w.heap.size + 1) s2 (.slice A2 n2 c2) := ⟨by simp, by go_simp, by go_simp⟩
  have h0 : RowP 3 ((w.alloc (.cells #[.int .i64 s, .slice A n c] 31)).alloc (.cells #[.int .i64 s2, .slice A2 n2 c2] 31)) B A n c f := h.keep fun p hp => hb0.cell (by omega)
  have h0' : RowP 3 ((w.alloc (.cells #[.int .i64 s, .slice A n c] 31)).alloc (.cells #[.int .i64 s2, .slice A2 n2 c2] 31)) B A2 n2 c2 g := h'.keep fun p hp => hb0.cell (by omega)
  have hz0 : ((w.alloc (.cells #[.int .i64 s, .slice A n c] 31)).alloc (.cells #[.int .i64 s2, .slice A2 n2 c2] 31)).heap.size = w.heap.size + 2 := by simp
  have hzz : w.heap.size + 2 ≤ ((w.alloc (.cells #[.int .i64 s, .slice A n c] 31)).alloc (.cells #[.int .i64 s2, .slice A2 n2 c2] 31)).heap.size := by omega
  clear hz0
  rcases Bool.eq_false_or_eq_true (blockOk s n f) with hF | hF
  · have HP := Lib.hid (show pairOk s n f s2 n2 g = (blockOk s2 n2 g && (s == s2)) by unfold pairOk; rw [hF, Bool.true_and])
    go_enter Try.func55, Try.ntmps55
    go_wp2_with fail
    refine (spec_blockOk s A n c f B _ h0 (by omega)).mono ?_
    rintro e w1 ⟨rfl, hb1⟩
    rw [hF]
    have hx1 := hx0.below hb1 (by omega)
    have hy1 := hy0.below hb1 (by omega)
    have h1' : RowP 3 w1 B A2 n2 c2 g := h0'.keep fun p hp => hb1.cell (by omega)
    have hb2 := hb0.trans (hb1.mono (by omega))
    clear hb1 hb0 hx0 hy0 h0 h0' hF hzz
    obtain ⟨xz, xc0, xc1⟩ := id hx1
    obtain ⟨yz, yc0, yc1⟩ := id hy1
    go_wp2_with fail
    refine (spec_blockOk s2 A2 n2 c2 g B _ h1' (by omega)).mono ?_
    rintro e w2 ⟨rfl, hb3⟩
    have hx2 := hx1.below hb3 xz
    have hy2 := hy1.below hb3 yz
    have hb4 := hb2.trans (hb3.mono (by omega))
    clear hb3 hb2 hx1 hy1 h1' xz xc0 xc1 yz yc0 yc1
    obtain ⟨xz, xc0, xc1⟩ := id hx2
    obtain ⟨yz, yc0, yc1⟩ := id hy2
    rcases Bool.eq_false_or_eq_true (blockOk s2 n2 g) with hG | hG
    · have HE := Lib.hid (show pairOk s n f s2 n2 g = (s == s2) by rw [HP.out, hG, Bool.true_and])
      rw [hG]
      clear hG
      go_wp2
      go_ret
      exact ⟨ret_bool HE.out.symm, hb4⟩
    · have HE := Lib.hid (show pairOk s n f s2 n2 g = false by rw [HP.out, hG, Bool.false_and])
      rw [hG]
      clear hG
      go_wp2
      go_ret
      exact ⟨ret_bool HE.out.symm, hb4⟩
  · have HE := Lib.hid (show pairOk s n f s2 n2 g = false by unfold pairOk; rw [hF]; rfl)
    go_enter Try.func55, Try.ntmps55
    go_wp2_with fail
    refine (spec_blockOk s A n c f B _ h0 (by omega)).mono ?_
    rintro e w1 ⟨rfl, hb1⟩
    rw [hF]
    have hb2 := hb0.trans (hb1.mono (by omega))
    clear hb1 hb0 hx0 hy0 h0 h0' hF hzz
    go_wp2
    go_ret
    exact ⟨ret_bool HE.out.symm, hb2⟩
set_option maxHeartbeats 4000000 in
theorem impl_like (s : Int) (A : Option Addr) (n c : Nat) (f : Nat → Nat → Int) (s2 : Int) (A2 : Option Addr) (n2 c2 : Nat) (g : Nat → Nat → Int) (B : Nat) (w : World) (h : RowP 3 w B A n c f) (h' : RowP 3 w B A2 n2 c2 g) (hB : B ≤ w.heap.size) :
    Calls Try.prog 19 #[.agg #[.int .i64 s, .slice A n c], .agg #[.int .i64 s2, .slice A2 n2 c2]] w fun e w' => e = .returned (.int .i64 (likeness s n f s2 n2 g)) ∧ Below w.heap.size w w' := by
  rcases Bool.eq_false_or_eq_true (pairOk s n f s2 n2 g) with hO | hO
  · obtain ⟨hP, _, e1, e2⟩ := pair_of hO
    have hcap := h.cap
    unfold maxLen at hcap
    have n16 := hP.n16
    have HE := Lib.hid (show likeness s n f s2 n2 g = likeSum f g n by unfold likeness; rw [if_pos hO])
    have HO := Lib.hid hO
    obtain rfl := e1
    obtain rfl := e2
    clear hP hO
    have hb0 : Below w.heap.size w ((w.alloc (.cells #[.int .i64 s2, .slice A n2 c] 31)).alloc (.cells #[.int .i64 s2, .slice A2 n2 c2] 31)) := ((Below.refl _ _).alloc (Nat.le_refl _) _).alloc (by simp) _
    have hx0 : BoxB ((w.alloc (.cells #[.int .i64 s2, .slice A n2 c] 31)).alloc (.cells #[.int .i64 s2, .slice A2 n2 c2] 31)) w.heap.size s2 (.slice A n2 c) := ⟨by simp <;> omega, by go_simp, by go_simp⟩
    have hy0 : BoxB ((w.alloc (.cells #[.int .i64 s2, .slice A n2 c] 31)).alloc (.cells #[.int .i64 s2, .slice A2 n2 c2] 31)) (w.heap.size + 1) s2 (.slice A2 n2 c2) := ⟨by simp, by go_simp, by go_simp⟩
    have h0 : RowP 3 ((w.alloc (.cells #[.int .i64 s2, .slice A n2 c] 31)).alloc (.cells #[.int .i64 s2, .slice A2 n2 c2] 31)) B A n2 c f := h.keep fun p hp => hb0.cell (by omega)
    have h0' : RowP 3 ((w.alloc (.cells #[.int .i64 s2, .slice A n2 c] 31)).alloc (.cells #[.int .i64 s2, .slice A2 n2 c2] 31)) B A2 n2 c2 g := h'.keep fun p hp => hb0.cell (by omega)
    have hz0 : ((w.alloc (.cells #[.int .i64 s2, .slice A n2 c] 31)).alloc (.cells #[.int .i64 s2, .slice A2 n2 c2] 31)).heap.size = w.heap.size + 2 := by simp
    have hzz : w.heap.size + 2 ≤ ((w.alloc (.cells #[.int .i64 s2, .slice A n2 c] 31)).alloc (.cells #[.int .i64 s2, .slice A2 n2 c2] 31)).heap.size := by omega
    clear hz0
    go_enter Try.func19, Try.ntmps19
    go_wp2_with fail
    refine (impl_pair s2 A n2 c f s2 A2 n2 c2 g B _ h0 h0' (by omega)).mono ?_
    rintro e w1 ⟨rfl, hb1⟩
    rw [HO.out]
    have hx1 := hx0.below hb1 (by omega)
    have hy1 := hy0.below hb1 (by omega)
    have hb2 := hb0.trans (hb1.mono (by omega))
    clear hb1 hb0 hx0 hy0 h0 h0' hzz
    obtain ⟨xz, xc0, xc1⟩ := id hx1
    obtain ⟨yz, yc0, yc1⟩ := id hy1
    go_wp2_with fail
    clear xz xc0 xc1 yz yc0 yc1
    go_loopw [5, 6, 14] (fun v _ i wr => ∃ k : Nat, k ≤ n2 ∧ i = .int .i64 k ∧ v = .int .i64 (likeSum f g k) ∧ BoxB wr w.heap.size s2 (.slice A n2 c) ∧ BoxB wr (w.heap.size + 1) s2 (.slice A2 n2 c2) ∧ Below w.heap.size w wr) (fun _ _ i _ => n2 - (intOf i).toNat)
    case atStart => exact ⟨0, by omega, rfl, rfl, hx1, hy1, hb2⟩
    case round =>
      clear hx1 hy1 hb2
      obtain ⟨k, hk, rfl, rfl, hx, hy, hb⟩ := hrel
      have hbd := likeSum_bd f g k
      have hcd := cellLike_bd (f k) (g k)
      have hbw := hb.size
      obtain ⟨xz, xc0, xc1⟩ := id hx
      obtain ⟨yz, yc0, yc1⟩ := id hy
      by_cases hlt : k < n2
      · have h2 : RowP 3 wr B A n2 c f := h.keep fun p hp => hb.cell (by omega)
        have h2' : RowP 3 wr B A2 n2 c2 g := h'.keep fun p hp => hb.cell (by omega)
        obtain ⟨b, off, rfl, hbB, hc⟩ := h2.at_ hlt
        obtain ⟨b', off', rfl, hbB', hc'⟩ := h2'.at_ hlt
        obtain ⟨n, rfl⟩ : ∃ n, n = n2 := ⟨_, rfl⟩
        have x0 : wr.cell? ⟨b, off + k * 3, none⟩ = some (.int .i64 (f k 0)) := by exact hc 0 (by omega)
        have x1 : wr.cell? ⟨b, off + k * 3 + 1, none⟩ = some (.int .i64 (f k 1)) := by rw [Nat.add_assoc]; exact hc 1 (by omega)
        have x2 : wr.cell? ⟨b, off + k * 3 + 2, none⟩ = some (.int .i64 (f k 2)) := by rw [Nat.add_assoc]; exact hc 2 (by omega)
        have y0 : wr.cell? ⟨b', off' + k * 3, none⟩ = some (.int .i64 (g k 0)) := by exact hc' 0 (by omega)
        have y1 : wr.cell? ⟨b', off' + k * 3 + 1, none⟩ = some (.int .i64 (g k 1)) := by rw [Nat.add_assoc]; exact hc' 1 (by omega)
        have y2 : wr.cell? ⟨b', off' + k * 3 + 2, none⟩ = some (.int .i64 (g k 2)) := by rw [Nat.add_assoc]; exact hc' 2 (by omega)
        have k0 : (0 : Int) ≤ (k : Int) := by omega
        have k3 : (k : Int) < (n : Int) := by omega
        have l1 : b < wr.heap.size := by omega
        have l2 : b' < wr.heap.size := by omega
        have ew : IntKind.i64.wrap (likeSum f g k + cellLike (f k) (g k)) = likeSum f g k + cellLike (f k) (g k) := IntWalk.i64_in _ (by omega)
        have HS := Lib.hid (show likeSum f g (k + 1) = likeSum f g k + cellLike (f k) (g k) from rfl)
        clear hc hc' h2 h2'
        go_wp2_with fail
        go_region_held3 (fun w' => w'.cell? ⟨w.heap.size, 1, none⟩ = some (.slice (some ⟨b, off, none⟩) n c) ∧ w'.cell? ⟨(w.heap.size + 1), 1, none⟩ = some (.slice (some ⟨b', off', none⟩) n c2) ∧ w'.cell? ⟨b, off + k * 3, none⟩ = some (.int .i64 (f k 0)) ∧ w'.cell? ⟨b, off + k * 3 + 1, none⟩ = some (.int .i64 (f k 1)) ∧ w'.cell? ⟨b, off + k * 3 + 2, none⟩ = some (.int .i64 (f k 2)) ∧ w'.cell? ⟨b', off' + k * 3, none⟩ = some (.int .i64 (g k 0)) ∧ w'.cell? ⟨b', off' + k * 3 + 1, none⟩ = some (.int .i64 (g k 1)) ∧ w'.cell? ⟨b', off' + k * 3 + 2, none⟩ = some (.int .i64 (g k 2))) (first | go_keep | (exact ⟨s0, s1, s2, s3, s4, s5, s6, s7⟩)) (first | (go_at_call 59; ((with_reducible refine (impl_cellLike (f k) (g k) _).mono ?_); rintro e wc0 ⟨rfl, hbc0⟩); replace hbc0 := below_drew hbc0; obtain ⟨hcc0, hfc0⟩ := bcell hbc0; have s0 := (hcc0 w.heap.size (1) xz).trans xc1; have s1 := (hcc0 (w.heap.size + 1) (1) yz).trans yc1; have s2 := (hcc0 b (off + k * 3) l1).trans x0; have s3 := (hcc0 b (off + k * 3 + 1) l1).trans x1; have s4 := (hcc0 b (off + k * 3 + 2) l1).trans x2; have s5 := (hcc0 b' (off' + k * 3) l2).trans y0; have s6 := (hcc0 b' (off' + k * 3 + 1) l2).trans y1; have s7 := (hcc0 b' (off' + k * 3 + 2) l2).trans y2))
        have hb5 := hb.trans (hbc0.mono (by omega))
        have hx5 := hx.below hbc0 xz
        have hy5 := hy.below hbc0 yz
        clear ew hb hx hy hbc0 hcc0 hfc0 xz xc0 xc1 yz yc0 yc1 x0 x1 x2 y0 y1 y2 s0 s1 s2 s3 s4 s5 s6 s7
        go_wp2
        go_roundw
        case rel => exact ⟨k + 1, by omega, by go_num, by rw [HS.out], hx5, hy5, hb5⟩
        case measure => simp [intOf]; omega
      · obtain rfl : k = n2 := by omega
        have k3 : ¬ (k : Int) < (k : Int) := by omega
        go_wp2
        go_ret
        exact ⟨ret_int HE.out.symm, hb⟩
  · have HE := Lib.hid (show likeness s n f s2 n2 g = 0 by unfold likeness; rw [hO]; rfl)
    have hb0 : Below w.heap.size w ((w.alloc (.cells #[.int .i64 s, .slice A n c] 31)).alloc (.cells #[.int .i64 s2, .slice A2 n2 c2] 31)) := ((Below.refl _ _).alloc (Nat.le_refl _) _).alloc (by simp) _
    have hx0 : BoxB ((w.alloc (.cells #[.int .i64 s, .slice A n c] 31)).alloc (.cells #[.int .i64 s2, .slice A2 n2 c2] 31)) w.heap.size s (.slice A n c) := ⟨by simp <;> omega, by go_simp, by go_simp⟩
    have hy0 : BoxB ((w.alloc (.cells #[.int .i64 s, .slice A n c] 31)).alloc (.cells #[.int .i64 s2, .slice A2 n2 c2] 31)) (w.heap.size + 1) s2 (.slice A2 n2 c2) := ⟨by simp, by go_simp, by go_simp⟩
    have h0 : RowP 3 ((w.alloc (.cells #[.int .i64 s, .slice A n c] 31)).alloc (.cells #[.int .i64 s2, .slice A2 n2 c2] 31)) B A n c f := h.keep fun p hp => hb0.cell (by omega)
    have h0' : RowP 3 ((w.alloc (.cells #[.int .i64 s, .slice A n c] 31)).alloc (.cells #[.int .i64 s2, .slice A2 n2 c2] 31)) B A2 n2 c2 g := h'.keep fun p hp => hb0.cell (by omega)
    have hz0 : ((w.alloc (.cells #[.int .i64 s, .slice A n c] 31)).alloc (.cells #[.int .i64 s2, .slice A2 n2 c2] 31)).heap.size = w.heap.size + 2 := by simp
    have hzz : w.heap.size + 2 ≤ ((w.alloc (.cells #[.int .i64 s, .slice A n c] 31)).alloc (.cells #[.int .i64 s2, .slice A2 n2 c2] 31)).heap.size := by omega
    clear hz0
    go_enter Try.func19, Try.ntmps19
    go_wp2_with fail
    refine (impl_pair s A n c f s2 A2 n2 c2 g B _ h0 h0' (by omega)).mono ?_
    rintro e w1 ⟨rfl, hb1⟩
    rw [hO]
    have hb2 := hb0.trans (hb1.mono (by omega))
    clear hb1 hb0 hx0 hy0 h0 h0' hzz
    go_wp2
    go_ret
    exact ⟨ret_int HE.out.symm, hb2⟩
set_option maxHeartbeats 4000000 in
theorem spec_like (s : Int) (A : Option Addr) (n c : Nat) (f : Nat → Nat → Int) (s2 : Int) (A2 : Option Addr) (n2 c2 : Nat) (g : Nat → Nat → Int) (B : Nat) (w : World) (h : RowP 3 w B A n c f) (h' : RowP 3 w B A2 n2 c2 g) (hB : B ≤ w.heap.size) :
    Calls Try.prog 17 #[.agg #[.int .i64 s, .slice A n c], .agg #[.int .i64 s2, .slice A2 n2 c2]] w fun e w' => e = .returned (.int .i64 (likeness s n f s2 n2 g)) ∧ Below w.heap.size w w' := by
  rcases Bool.eq_false_or_eq_true (pairOk s n f s2 n2 g) with hO | hO
  · obtain ⟨hP, _, e1, e2⟩ := pair_of hO
    have hcap := h.cap
    unfold maxLen at hcap
    have n16 := hP.n16
    have HE := Lib.hid (show likeness s n f s2 n2 g = likeSum f g n by unfold likeness; rw [if_pos hO])
    have HO := Lib.hid hO
    obtain rfl := e1
    obtain rfl := e2
    clear hP hO
    have hb0 : Below w.heap.size w ((w.alloc (.cells #[.int .i64 s2, .slice A n2 c] 31)).alloc (.cells #[.int .i64 s2, .slice A2 n2 c2] 31)) := ((Below.refl _ _).alloc (Nat.le_refl _) _).alloc (by simp) _
    have hx0 : BoxB ((w.alloc (.cells #[.int .i64 s2, .slice A n2 c] 31)).alloc (.cells #[.int .i64 s2, .slice A2 n2 c2] 31)) w.heap.size s2 (.slice A n2 c) := ⟨by simp <;> omega, by go_simp, by go_simp⟩
    have hy0 : BoxB ((w.alloc (.cells #[.int .i64 s2, .slice A n2 c] 31)).alloc (.cells #[.int .i64 s2, .slice A2 n2 c2] 31)) (w.heap.size + 1) s2 (.slice A2 n2 c2) := ⟨by simp, by go_simp, by go_simp⟩
    have h0 : RowP 3 ((w.alloc (.cells #[.int .i64 s2, .slice A n2 c] 31)).alloc (.cells #[.int .i64 s2, .slice A2 n2 c2] 31)) B A n2 c f := h.keep fun p hp => hb0.cell (by omega)
    have h0' : RowP 3 ((w.alloc (.cells #[.int .i64 s2, .slice A n2 c] 31)).alloc (.cells #[.int .i64 s2, .slice A2 n2 c2] 31)) B A2 n2 c2 g := h'.keep fun p hp => hb0.cell (by omega)
    have hz0 : ((w.alloc (.cells #[.int .i64 s2, .slice A n2 c] 31)).alloc (.cells #[.int .i64 s2, .slice A2 n2 c2] 31)).heap.size = w.heap.size + 2 := by simp
    have hzz : w.heap.size + 2 ≤ ((w.alloc (.cells #[.int .i64 s2, .slice A n2 c] 31)).alloc (.cells #[.int .i64 s2, .slice A2 n2 c2] 31)).heap.size := by omega
    clear hz0
    go_enter Try.func17, Try.ntmps17
    go_wp2_with fail
    refine (spec_pair s2 A n2 c f s2 A2 n2 c2 g B _ h0 h0' (by omega)).mono ?_
    rintro e w1 ⟨rfl, hb1⟩
    rw [HO.out]
    have hx1 := hx0.below hb1 (by omega)
    have hy1 := hy0.below hb1 (by omega)
    have hb2 := hb0.trans (hb1.mono (by omega))
    clear hb1 hb0 hx0 hy0 h0 h0' hzz
    obtain ⟨xz, xc0, xc1⟩ := id hx1
    obtain ⟨yz, yc0, yc1⟩ := id hy1
    go_wp2_with fail
    clear xz xc0 xc1 yz yc0 yc1
    go_loopw [5, 6] (fun v i wr => ∃ k : Nat, k ≤ n2 ∧ i = .int .i64 k ∧ v = .int .i64 (likeSum f g k) ∧ BoxB wr w.heap.size s2 (.slice A n2 c) ∧ BoxB wr (w.heap.size + 1) s2 (.slice A2 n2 c2) ∧ Below w.heap.size w wr) (fun _ i _ => n2 - (intOf i).toNat)
    case atStart => exact ⟨0, by omega, rfl, rfl, hx1, hy1, hb2⟩
    case round =>
      clear hx1 hy1 hb2
      obtain ⟨k, hk, rfl, rfl, hx, hy, hb⟩ := hrel
      have hbd := likeSum_bd f g k
      have hcd := cellLike_bd (f k) (g k)
      have hbw := hb.size
      obtain ⟨xz, xc0, xc1⟩ := id hx
      obtain ⟨yz, yc0, yc1⟩ := id hy
      by_cases hlt : k < n2
      · have h2 : RowP 3 wr B A n2 c f := h.keep fun p hp => hb.cell (by omega)
        have h2' : RowP 3 wr B A2 n2 c2 g := h'.keep fun p hp => hb.cell (by omega)
        obtain ⟨b, off, rfl, hbB, hc⟩ := h2.at_ hlt
        obtain ⟨b', off', rfl, hbB', hc'⟩ := h2'.at_ hlt
        obtain ⟨n, rfl⟩ : ∃ n, n = n2 := ⟨_, rfl⟩
        have x0 : wr.cell? ⟨b, off + k * 3, none⟩ = some (.int .i64 (f k 0)) := by exact hc 0 (by omega)
        have x1 : wr.cell? ⟨b, off + k * 3 + 1, none⟩ = some (.int .i64 (f k 1)) := by rw [Nat.add_assoc]; exact hc 1 (by omega)
        have x2 : wr.cell? ⟨b, off + k * 3 + 2, none⟩ = some (.int .i64 (f k 2)) := by rw [Nat.add_assoc]; exact hc 2 (by omega)
        have y0 : wr.cell? ⟨b', off' + k * 3, none⟩ = some (.int .i64 (g k 0)) := by exact hc' 0 (by omega)
        have y1 : wr.cell? ⟨b', off' + k * 3 + 1, none⟩ = some (.int .i64 (g k 1)) := by rw [Nat.add_assoc]; exact hc' 1 (by omega)
        have y2 : wr.cell? ⟨b', off' + k * 3 + 2, none⟩ = some (.int .i64 (g k 2)) := by rw [Nat.add_assoc]; exact hc' 2 (by omega)
        have k0 : (0 : Int) ≤ (k : Int) := by omega
        have k3 : (k : Int) < (n : Int) := by omega
        have l1 : b < wr.heap.size := by omega
        have l2 : b' < wr.heap.size := by omega
        have ew : IntKind.i64.wrap (likeSum f g k + cellLike (f k) (g k)) = likeSum f g k + cellLike (f k) (g k) := IntWalk.i64_in _ (by omega)
        have HS := Lib.hid (show likeSum f g (k + 1) = likeSum f g k + cellLike (f k) (g k) from rfl)
        clear hc hc' h2 h2'
        go_wp2_with fail
        go_region_held3 (fun w' => w'.cell? ⟨w.heap.size, 1, none⟩ = some (.slice (some ⟨b, off, none⟩) n c) ∧ w'.cell? ⟨(w.heap.size + 1), 1, none⟩ = some (.slice (some ⟨b', off', none⟩) n c2) ∧ w'.cell? ⟨b, off + k * 3, none⟩ = some (.int .i64 (f k 0)) ∧ w'.cell? ⟨b, off + k * 3 + 1, none⟩ = some (.int .i64 (f k 1)) ∧ w'.cell? ⟨b, off + k * 3 + 2, none⟩ = some (.int .i64 (f k 2)) ∧ w'.cell? ⟨b', off' + k * 3, none⟩ = some (.int .i64 (g k 0)) ∧ w'.cell? ⟨b', off' + k * 3 + 1, none⟩ = some (.int .i64 (g k 1)) ∧ w'.cell? ⟨b', off' + k * 3 + 2, none⟩ = some (.int .i64 (g k 2))) (first | go_keep | (exact ⟨s0, s1, s2, s3, s4, s5, s6, s7⟩)) (first | (go_at_call 56; ((with_reducible refine (spec_cellLike (f k) (g k) _).mono ?_); rintro e wc0 ⟨rfl, hbc0⟩); replace hbc0 := below_drew hbc0; obtain ⟨hcc0, hfc0⟩ := bcell hbc0; have s0 := (hcc0 w.heap.size (1) xz).trans xc1; have s1 := (hcc0 (w.heap.size + 1) (1) yz).trans yc1; have s2 := (hcc0 b (off + k * 3) l1).trans x0; have s3 := (hcc0 b (off + k * 3 + 1) l1).trans x1; have s4 := (hcc0 b (off + k * 3 + 2) l1).trans x2; have s5 := (hcc0 b' (off' + k * 3) l2).trans y0; have s6 := (hcc0 b' (off' + k * 3 + 1) l2).trans y1; have s7 := (hcc0 b' (off' + k * 3 + 2) l2).trans y2))
        have hb5 := hb.trans (hbc0.mono (by omega))
        have hx5 := hx.below hbc0 xz
        have hy5 := hy.below hbc0 yz
        clear ew hb hx hy hbc0 hcc0 hfc0 xz xc0 xc1 yz yc0 yc1 x0 x1 x2 y0 y1 y2 s0 s1 s2 s3 s4 s5 s6 s7
        go_wp2
        go_roundw
        case rel => exact ⟨k + 1, by omega, by go_num, by rw [HS.out], hx5, hy5, hb5⟩
        case measure => simp [intOf]; omega
      · obtain rfl : k = n2 := by omega
        have k3 : ¬ (k : Int) < (k : Int) := by omega
        go_wp2
        go_ret
        exact ⟨ret_int HE.out.symm, hb⟩
  · have HE := Lib.hid (show likeness s n f s2 n2 g = 0 by unfold likeness; rw [hO]; rfl)
    have hb0 : Below w.heap.size w ((w.alloc (.cells #[.int .i64 s, .slice A n c] 31)).alloc (.cells #[.int .i64 s2, .slice A2 n2 c2] 31)) := ((Below.refl _ _).alloc (Nat.le_refl _) _).alloc (by simp) _
    have hx0 : BoxB ((w.alloc (.cells #[.int .i64 s, .slice A n c] 31)).alloc (.cells #[.int .i64 s2, .slice A2 n2 c2] 31)) w.heap.size s (.slice A n c) := ⟨by simp <;> omega, by go_simp, by go_simp⟩
    have hy0 : BoxB ((w.alloc (.cells #[.int .i64 s, .slice A n c] 31)).alloc (.cells #[.int .i64 s2, .slice A2 n2 c2] 31)) (w.heap.size + 1) s2 (.slice A2 n2 c2) := ⟨by simp, by go_simp, by go_simp⟩
    have h0 : RowP 3 ((w.alloc (.cells #[.int .i64 s, .slice A n c] 31)).alloc (.cells #[.int .i64 s2, .slice A2 n2 c2] 31)) B A n c f := h.keep fun p hp => hb0.cell (by omega)
    have h0' : RowP 3 ((w.alloc (.cells #[.int .i64 s, .slice A n c] 31)).alloc (.cells #[.int .i64 s2, .slice A2 n2 c2] 31)) B A2 n2 c2 g := h'.keep fun p hp => hb0.cell (by omega)
    have hz0 : ((w.alloc (.cells #[.int .i64 s, .slice A n c] 31)).alloc (.cells #[.int .i64 s2, .slice A2 n2 c2] 31)).heap.size = w.heap.size + 2 := by simp
    have hzz : w.heap.size + 2 ≤ ((w.alloc (.cells #[.int .i64 s, .slice A n c] 31)).alloc (.cells #[.int .i64 s2, .slice A2 n2 c2] 31)).heap.size := by omega
    clear hz0
    go_enter Try.func17, Try.ntmps17
    go_wp2_with fail
    refine (spec_pair s A n c f s2 A2 n2 c2 g B _ h0 h0' (by omega)).mono ?_
    rintro e w1 ⟨rfl, hb1⟩
    rw [hO]
    have hb2 := hb0.trans (hb1.mono (by omega))
    clear hb1 hb0 hx0 hy0 h0 h0' hzz
    go_wp2
    go_ret
    exact ⟨ret_int HE.out.symm, hb2⟩
end Go.Proofs.Ythenjmjnooaokaa
