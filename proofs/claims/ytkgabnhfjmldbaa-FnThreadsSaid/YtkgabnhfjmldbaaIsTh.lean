/- Contracts of the program's IsThread, for a walk over all the lines, and of its AreJoined. -/
import Derived.Test.YtkgabnhfjmldbaaGo
import Derived.Test.YtkgabnhfjmldbaaAppL
import Derived.Test.YtkgabnhfjmldbaaPureFt
import Derived.Test.YtkgabnhfjmldbaaInts
import Derived.Deep.RegionHeld3
import Derived.Deep.RegionLaw
namespace Go.Proofs.Ytkgabnhfjmldbaa
open Go.ChangeShapes Go.WideShapes Go.ChangeAt Go.RowKit
theorem walks_len {l : Nat} {f : Nat → Nat → Int} {zs : List Int} (h : Walks l f zs) : (steps zs).length = l := by
  have := h.length_eq
  rw [List.length_map, List.length_map, edges_len] at this
  exact this.symm
theorem matchA_ne {q : Nat → Int} {a b : Int} (h : matchA q a b = true) (hq : q 0 ≠ q 1) : a ≠ b := by
  unfold matchA at h
  simp only [Bool.or_eq_true, Bool.and_eq_true, beq_iff_eq] at h
  omega
theorem allIn_of {zs : List Int} {a b : Int} (h : ∀ z ∈ zs, a ≤ z ∧ z ≤ b) : allIn zs a b = true := by
  unfold allIn
  rw [List.all_eq_true]
  intro z hz
  unfold inB
  have := h z hz
  simp [this.1, this.2]
theorem drop_two {zs : List Int} {i : Nat} (h : i + 1 < zs.length) : zs.drop i = nth zs i :: nth zs (i + 1) :: zs.drop (i + 2) := by
  have e : ∀ k, (hk : k < zs.length) → zs.drop k = nth zs k :: zs.drop (k + 1) := fun k hk => by
    rw [List.drop_eq_getElem_cons hk]
    congr 1
    have := nth_get? hk
    rw [List.getElem?_eq_getElem hk] at this
    exact Option.some.inj this
  rw [e i (by omega), e (i + 1) h]
theorem catS0 (f g : Nat → Nat → Int) (i j : Nat) : catS f 0 g i j = g i j := by unfold catS; rw [if_neg (by omega), Nat.sub_zero]
def lenT : Value → Nat
  | .slice _ k _ => k
  | _ => 0
set_option maxRecDepth 100000 in
set_option maxHeartbeats 8000000 in
theorem impl_isThread (N : Nat) (A : Option Addr) (l c M : Nat) (f : Nat → Nat → Int) (Z : Option Addr) (cz : Nat) (zs : List Int) (B : Nat) (w : World) (h : RowP 2 w B A l c f) (hB : B ≤ w.heap.size) (hz : RowI .i64 w B Z M cz zs) (hM : M = l + 1) (hl : 0 < l)
    (hok : linesOk N l f = true) (hin : inN N f l) (hzs : ∀ z ∈ zs, 0 ≤ z ∧ z < N) (hw : Walks l f zs) :
    Calls Try.prog 20 #[.int .i64 N, .slice A l c, .slice Z M cz] w fun e w' => e = .returned (.bool true) ∧ Below w.heap.size w w' := by
  have HI0 := Lib.hid hin
  have HW0 := Lib.hid hw
  have hlen := hz.len
  have HL := Lib.hid hlen
  have hL := lines_of hok
  have n1 := hL.n1
  have n10 := hL.n10
  have l20 := hL.l20
  have HOK := Lib.hid hok
  have HAll := Lib.hid (allIn_of (a := 0) (b := (N : Int) - 1) fun z hz' => by have := hzs z hz'; omega)
  have HZ := Lib.hid hzs
  have hM1 : l < M := by omega
  have hM2 : M ≤ l + 1 := by omega
  clear hin hw hlen hL hok hzs hM
  obtain ⟨ad, off, rfl⟩ : ∃ ad off, A = some ⟨ad, off, none⟩ := by obtain ⟨b, off, e, _⟩ := h.at_ hl; exact ⟨b, off, e⟩
  have d1 : IntKind.i64.wrap ((l : Int) + 1) = (M : Int) := by rw [IntWalk.i64_in _ (by omega)]; omega
  have d2 : ((M : Int) != (M : Int)) = false := by simp
  have d3 : IntKind.i64.wrap ((N : Int) - 1) = (N : Int) - 1 := IntWalk.i64_in _ (by omega)
  go_enter Try.func20, Try.ntmps20
  go_wp2_with fail
  refine (impl_linesOk N _ l c f B w h hB).mono ?_
  rintro e w1 ⟨rfl, b1⟩
  rw [HOK.out]
  have hz1 := hz.below (b1.mono hB)
  go_wp2_with fail
  refine (all_any Z M cz zs 0 ((N : Int) - 1) B w1 hz1).mono ?_
  rintro e w' ⟨rfl, rfl⟩
  rw [HAll.out]
  have bA := b1.alloc b1.size (.cells #[] 43)
  have hE : OwnS 2 43 (w1.alloc (.cells #[] 43)) w1.heap.size (.slice (some ⟨w1.heap.size, 0, none⟩) 0 0) 0 f := by simpa using ownS_empty 2 43 w1 f
  have HNW := Lib.hid (news_rowP (by decide) (h.below' bA hB))
  have z1 := b1.size
  clear hz1 b1
  go_wp2_with (at_builtin; refine appL_plain (by rfl) _ _ (by rfl) (w1.heap.size) 0 l c l _ f f f ⟨ad, off, none⟩ (by rfl) hE (by rfl) HNW.out (by omega) (fun i _ j _ => catS0 f f i j) (by omega) (by simp) ?_; intro A5 c5 w5 ho5 hg5)
  have b6 : Below w.heap.size w w5 := bA.grown hg5 (by simp; omega) (fun k hk => by cases hk; exact z1)
  replace ho5 := ho5.base_ z1
  clear hg5 hE bA
  go_loopw [7, 8] (fun lv iv wr => ∃ (L i : Nat) (F : Nat → Nat → Int) (A1 : Option Addr) (c1 : Nat), lv = .slice A1 L c1 ∧ iv = .int .i64 ((i : Int) + 1) ∧ L + i = l ∧ Hid (inN N F L) ∧ Hid (Walks L F (zs.drop i)) ∧ OwnS 2 43 wr w.heap.size (.slice A1 L c1) L F ∧ Below w.heap.size w wr) (fun lv _ _ => lenT lv)
  case atStart => exact ⟨l, 0, f, A5, c5, rfl, rfl, by omega, HI0, HW0, ho5, b6⟩
  case round =>
    clear ho5 b6
    obtain ⟨L, i, F, A1, c1, rfl, rfl, hLi, HI, HW, oL, hb⟩ := hrel
    have hbz := hb.size
    rcases (by omega : L = 0 ∨ 0 < L) with q0 | q0
    · have q1 : ¬ ((i : Int) + 1 < (M : Int)) := by omega
      have q2 : decide ((i : Int) + 1 < (M : Int)) = false := decide_eq_false q1
      go_wp2
      go_ret
      exact ⟨rfl, hb⟩
    have q1 : (i : Int) + 1 < (M : Int) := by omega
    obtain ⟨G, rfl⟩ := oL.some_ q0
    have hzr := (hz.more hB).below hb
    obtain ⟨zb, zo, hzA, hzB, x0⟩ := hzr.at_ (j := i) (by omega)
    subst hzA
    have x1 : wr.cell? ⟨zb, zo + (i + 1), none⟩ = some (.int .i64 (nth zs (i + 1))) := by
      obtain ⟨zb', zo', e, _, x1⟩ := hzr.at_ (j := i + 1) (by omega)
      cases e
      exact x1
    clear hzr
    have HW1 := Lib.hid (show Walks L F (nth zs i :: nth zs (i + 1) :: zs.drop (i + 2)) by rw [← drop_two (by have := HL.out; omega)]; exact HW.out)
    have HW2 := Lib.hid (show zs.drop (i + 1) = nth zs (i + 1) :: zs.drop (i + 2) by
      have := drop_two (zs := zs) (i := i) (by have := HL.out; omega)
      have h2 := congrArg List.tail this
      rw [List.tail_drop] at h2
      exact h2)
    obtain ⟨a, ha⟩ : ∃ a, a = nth zs i := ⟨_, rfl⟩
    obtain ⟨b, hbb⟩ : ∃ b, b = nth zs (i + 1) := ⟨_, rfl⟩
    rw [← ha] at x0 HW1
    rw [← hbb] at x1 HW1 HW2
    clear ha hbb
    obtain ⟨k, hk0, hk, hW3⟩ := walks_step HW1.out
    have HK := Lib.hid hk0
    have HW3 := Lib.hid hW3
    have hab : a ≠ b := by
      obtain ⟨k', _, hk', hm⟩ := (lastM_bd F a b L).2.2 (by rw [hk0]; omega)
      exact matchA_ne hm (HI.out k' hk').2.2.2.2
    clear hk0 hW3
    have i0 : (0 : Int) ≤ (i : Int) := by omega
    have i1 : (i : Int) < (M : Int) := by omega
    have i2 : (0 : Int) ≤ (i : Int) + 1 := by omega
    have i4 : IntKind.i64.wrap ((i : Int) + 1 - 1) = (i : Int) := by rw [IntWalk.i64_in _ (by omega)]; omega
    have i5 : ((i : Int) + 1).toNat = i + 1 := by omega
    have i6 : ((i : Int)).toNat = i := by omega
    go_wp2_with fail
    go_region
    clear x0 x1
    go_wp2_with fail
    go_loopw [11, 53] (fun av kv wx => ∃ j : Nat, j ≤ L ∧ kv = .int .i64 j ∧ av = .int .i64 (lastM F a b j) ∧ OwnS 2 43 wx w.heap.size (.slice (some ⟨G, 0, none⟩) L c1) L F ∧ Below w.heap.size w wx) (fun _ kv _ => L - (intOf kv).toNat)
    case atStart => exact ⟨0, by omega, rfl, rfl, oL.drew, hb.drew⟩
    case round =>
      clear oL hb hbz
      obtain ⟨j, hj, rfl, rfl, oL, hb⟩ := hrel
      have hbz := hb.size
      have hbd1 := (lastM_bd F a b j).1
      have hbd2 := (lastM_bd F a b j).2.1
      by_cases hlt : j < L
      · have j0 : (0 : Int) ≤ (j : Int) := by omega
        have j3 : (j : Int) < (L : Int) := by omega
        have x0 : wr.cell? ⟨G, j * 2, none⟩ = some (.int .i64 (F j 0)) := oL.cellAt (j := 0) hlt (by omega)
        have x1 : wr.cell? ⟨G, j * 2 + 1, none⟩ = some (.int .i64 (F j 1)) := oL.cellAt (j := 1) hlt (by omega)
        have hin2 := HI.out j hlt
        have zG : G < wr.heap.size := oL.ge.2
        have hoA := oL.alloc (.cells #[.int .i64 (F j 0), .int .i64 (F j 1)] 43)
        have hbA := hb.alloc hbz (.cells #[.int .i64 (F j 0), .int .i64 (F j 1)] 43)
        have HMM := Lib.hid (show matchA (F j) a b = ((F j 0 == a && F j 1 == b) || (F j 0 == b && F j 1 == a)) from rfl)
        obtain ⟨P, hP⟩ : ∃ P, P = F j 0 := ⟨_, rfl⟩
        obtain ⟨Q, hQ⟩ : ∃ Q, Q = F j 1 := ⟨_, rfl⟩
        rw [← hP] at x0 HMM
        rw [← hQ] at x1 HMM
        rw [← hP, ← hQ] at hoA hbA hin2
        obtain ⟨at0, hat⟩ : ∃ q, q = lastM F a b j := ⟨_, rfl⟩
        have HAT := Lib.hid hat
        rw [← hat] at hbd1 hbd2
        rw [← hat]
        clear hP hQ hat
        rcases (by omega : (P = a ∧ Q = b) ∨ (P = a ∧ Q ≠ b) ∨ (P ≠ a ∧ P = b ∧ Q = a) ∨ (P ≠ a ∧ P = b ∧ Q ≠ a) ∨ (P ≠ a ∧ P ≠ b)) with ⟨e1, e2⟩ | ⟨e1, e2⟩ | ⟨e0, e1, e2⟩ | ⟨e0, e1, e2⟩ | ⟨e1, e2⟩
        · skip
          have p1 : (P == a) = true := beq_iff_eq.2 e1
          have p2 : (Q == b) = true := beq_iff_eq.2 e2
          clear e1 e2
          have HM := Lib.hid (show matchA (F j) a b = true by rw [HMM.out]; rw [p1, p2]; rfl)
          have HE := Lib.hid (show lastM F a b (j + 1) = (j : Int) from if_pos HM.out)
          go_wp2
          go_roundw
          case rel => exact ⟨j + 1, by omega, by go_num, by rw [HE.out], hoA, hbA⟩
          case measure => simp [intOf]; omega
        · skip
          have p1 : (P == a) = true := beq_iff_eq.2 e1
          have p2 : (Q == b) = false := beq_eq_false_iff_ne.2 e2
          have p3 : (P == b) = false := beq_eq_false_iff_ne.2 (by omega)
          clear e1 e2
          have HM := Lib.hid (show matchA (F j) a b = false by rw [HMM.out]; rw [p1, p2, p3]; rfl)
          have HE := Lib.hid (show lastM F a b (j + 1) = at0 from (if_neg (by rw [HM.out]; decide)).trans HAT.out.symm)
          go_wp2
          go_roundw
          case rel => exact ⟨j + 1, by omega, by go_num, by rw [HE.out], hoA, hbA⟩
          case measure => simp [intOf]; omega
        · skip
          have p1 : (P == a) = false := beq_eq_false_iff_ne.2 e0
          have p2 : (P == b) = true := beq_iff_eq.2 e1
          have p3 : (Q == a) = true := beq_iff_eq.2 e2
          clear e0 e1 e2
          have HM := Lib.hid (show matchA (F j) a b = true by rw [HMM.out]; rw [p1, p2, p3]; rfl)
          have HE := Lib.hid (show lastM F a b (j + 1) = (j : Int) from if_pos HM.out)
          go_wp2
          go_roundw
          case rel => exact ⟨j + 1, by omega, by go_num, by rw [HE.out], hoA, hbA⟩
          case measure => simp [intOf]; omega
        · skip
          have p1 : (P == a) = false := beq_eq_false_iff_ne.2 e0
          have p2 : (P == b) = true := beq_iff_eq.2 e1
          have p3 : (Q == a) = false := beq_eq_false_iff_ne.2 e2
          clear e0 e1 e2
          have HM := Lib.hid (show matchA (F j) a b = false by rw [HMM.out]; rw [p1, p2, p3]; rfl)
          have HE := Lib.hid (show lastM F a b (j + 1) = at0 from (if_neg (by rw [HM.out]; decide)).trans HAT.out.symm)
          go_wp2
          go_roundw
          case rel => exact ⟨j + 1, by omega, by go_num, by rw [HE.out], hoA, hbA⟩
          case measure => simp [intOf]; omega
        · skip
          have p1 : (P == a) = false := beq_eq_false_iff_ne.2 e1
          have p2 : (P == b) = false := beq_eq_false_iff_ne.2 e2
          clear e1 e2
          have HM := Lib.hid (show matchA (F j) a b = false by rw [HMM.out]; rw [p1, p2]; rfl)
          have HE := Lib.hid (show lastM F a b (j + 1) = at0 from (if_neg (by rw [HM.out]; decide)).trans HAT.out.symm)
          go_wp2
          go_roundw
          case rel => exact ⟨j + 1, by omega, by go_num, by rw [HE.out], hoA, hbA⟩
          case measure => simp [intOf]; omega
      · obtain rfl : j = L := by omega
        rw [HK.out]
        have j3 : ¬ (j : Int) < (j : Int) := by omega
        have k0 : decide ((k : Int) < 0) = false := decide_eq_false (by omega)
        have hLc := oL.le
        obtain ⟨AD, hAD, hAN⟩ := sub_addr (m := 2) (e := 43) (base := w.heap.size) (g := G) (n := j) (c := c1) (lo := k + 1) (f := F) (by decide) hLc
        have HAN := Lib.hid (hAN _ oL.drew)
        have HCR := Lib.hid (show ∀ i, i < j - 1 → ∀ b, b < 2 → catS F k (fun q => F (k + 1 + q)) i b = rem F k i b from fun i _ b _ => by rw [catS_rem])
        have oP := (oL.pre (show k ≤ j by omega)).drew
        have hb := hb.drew
        have hbz := hb.size
        have hkc : k ≤ c1 := by omega
        have hwr : IntKind.i64.wrap ((k : Int) + 1) = (k : Int) + 1 := IntWalk.i64_in _ (by omega)
        have hp0 : (0 : Int) ≤ (k : Int) + 1 := by omega
        have hp1 : (k : Int) + 1 ≤ (j : Int) := by omega
        have hp2 : ((k : Int) + 1).toNat = k + 1 := by omega
        clear hAN hLc oL
        go_wp2_with fail
        go_region_held3 (fun _ => True) (first | go_keep | trivial) ((refine appL_drawn (by rfl) (.tmp 86) (.tmp 90) (by rfl) w.heap.size k (j - (k + 1)) (c1 - (k + 1)) (j - 1) _ F (fun q => F (k + 1 + q)) (rem F k) AD (by rfl) oP (by rfl) HAN.out (by omega) HCR.out (by omega) (by omega) ?_; intro A8 c8 w8 ho8 hg8; have b8 := hb.grown hg8 hbz (fun q hq => (oP.ge' q hq).1)))
        clear hAD
        go_wp2
        go_roundw
        case rel => exact ⟨j - 1, i + 1, rem F k, A8, c8, rfl, by go_num, by omega, Lib.hid (inN_rem HI.out hk), Lib.hid (by rw [HW2.out]; exact HW3.out), ho8, b8⟩
        case measure => simp [lenT]; omega
theorem impl_joined (N : Nat) (A : Option Addr) (l c : Nat) (f : Nat → Nat → Int) (H : Nat) (B : Nat) (w : World) (h : RowP 2 w B A l c f) (hB : B ≤ w.heap.size) (hok : linesOk N l f = true) (hin : ∀ k, k < l → 0 ≤ f k 0 ∧ f k 0 < N ∧ 0 ≤ f k 1 ∧ f k 1 < N ∧ f k 0 ≠ f k 1) (hH : (heads N f l).length = H) :
    Calls Try.prog 21 #[.int .i64 N, .slice A l c] w fun e w' => e = .returned (.bool (decide (H ≤ 1))) ∧ Below w.heap.size w w' := by
  have hL := lines_of hok
  have n1 := hL.n1
  have n10 := hL.n10
  have l20 := hL.l20
  have HOK := Lib.hid hok
  have HIN := Lib.hid hin
  have HH := Lib.hid hH
  clear hL hok hin hH
  go_enter Try.func21, Try.ntmps21
  go_wp2_with (first | (go_at_call 22; refine (impl_linesOk N A l c f B w h hB).mono ?_; rintro e w1 ⟨rfl, b1⟩; rw [HOK.out]) | (go_at_call 28; refine (impl_heads N A l c f B w1 (h.below' b1 hB) (by have := b1.size; omega) (by omega) (by omega) l20 HIN.out).mono ?_; rintro e w2 ⟨A2, c2, rfl, o2, b2⟩; rw [HH.out]; have b3 := b1.trans (b2.mono b1.size)))
  go_ret
  exact ⟨by simp; omega, b3⟩
end Go.Proofs.Ytkgabnhfjmldbaa
