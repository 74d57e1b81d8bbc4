/-
  The law FnStitches: for every input the Go function returns true, and each argument reads afterwards as it read before.
  Conditions: none beyond the row's own.
-/
import Derived.Test.YthenjmjnooaokaaCode
import Derived.Test.YthenjmjnooaokaaStitch
import Derived.Test.YthenjmjnooaokaaLayD
import Derived.Test.YthenjmjnooaokaaLay
import Derived.Test.YthenjmjnooaokaaPureSt2
import Derived.ChangeOld
import Derived.Carry
namespace Go.Proofs.Ythenjmjnooaokaa.fnStitches
open Go.ChangeShapes Go.WideShapes Go.ChangeAt Go.RowKit Go.Joins
open Go.ChangeMaps (open_string shut_string)
set_option linter.unusedVariables false

theorem own : ownKnob Try.prog.godebug = none := by kernel_rfl
theorem laidOut : laidOutB Try.prog = true := by kernel_rfl

set_option maxRecDepth 100000 in
set_option maxHeartbeats 16000000 in
theorem walk (a0 : Option Addr) (l0 c0 : Nat) (z0 : List Int) (w : World) (w0 : RowI .u8 w w.heap.size a0 l0 c0 z0) :
    Calls Try.prog 10 #[.slice a0 l0 c0] w fun e w' => e = .returned (.bool true) ∧ Below w.heap.size w w' := by
  have hcap := w0.cap
  unfold maxLen at hcap
  rcases (by omega : 1048576 < (l0 : Int) ∨ l0 ≤ 1048576) with hbig | hbig
  · have d0 : decide (1048576 < (l0 : Int)) = true := decide_eq_true hbig
    go_enter Try.func10, Try.ntmps10
    go_wp2_with (go_at_call 29; refine (big_any a0 l0 c0 _ (by omega)).mono ?_; rintro e w' ⟨rfl, rfl⟩; rw [d0])
    go_ret
    exact ⟨rfl, Below.refl _ _⟩
  have d0 : decide (1048576 < (l0 : Int)) = false := decide_eq_false (by omega)
  go_enter Try.func10, Try.ntmps10
  go_wp2_with fail
  refine (big_any a0 l0 c0 _ (by omega)).mono ?_
  rintro e w' ⟨rfl, rfl⟩
  rw [d0]
  go_wp2_with fail
  refine (at_any a0 l0 c0 z0 0 _ w w0 hbig (by omega)).mono ?_
  rintro e w' ⟨⟨a, ha, rfl⟩, rfl⟩
  go_wp2_with fail
  refine (at_any a0 l0 c0 z0 1 _ w w0 hbig (by omega)).mono ?_
  rintro e w' ⟨⟨b1, hb1, rfl⟩, rfl⟩
  go_wp2_with fail
  refine (at_any a0 l0 c0 z0 2 _ w w0 hbig (by omega)).mono ?_
  rintro e w' ⟨⟨b2, hb2, rfl⟩, rfl⟩
  obtain ⟨b, hb⟩ : ∃ b : Nat, b = b1 + b2 := ⟨_, rfl⟩
  have t2 : (b1 : Int) + (b2 : Int) = (b : Int) := by omega
  have t3 : IntKind.i64.wrap ((b1 : Int) + (b2 : Int)) = (b : Int) := by rw [IntWalk.i64_in _ (by omega)]; omega
  have b510 : b ≤ 510 := by omega
  clear hb
  go_wp2_with fail
  clear t2 t3 hb1 hb2
  refine (at_any a0 l0 c0 z0 3 _ w w0 hbig (by omega)).mono ?_
  rintro e w' ⟨⟨v, hv, rfl⟩, rfl⟩
  obtain ⟨per, hd⟩ : ∃ d, d = v % 40 + 1 := ⟨_, rfl⟩
  have q1 : (v : Int).tmod 40 = ((v % 40 : Nat) : Int) := by rw [Int.tmod_eq_emod_of_nonneg (by omega)]; rfl
  obtain ⟨v3, hv3⟩ : ∃ v3, v3 = v % 40 := ⟨_, rfl⟩
  rw [← hv3] at q1 hd
  have per1 : 1 ≤ per := by omega
  have per2 : per ≤ 40 := by omega
  have q2 : (1 : Int) + (v3 : Int) = (per : Int) := by omega
  have q3 : IntKind.i64.wrap (1 + (v3 : Int)) = (per : Int) := by rw [IntWalk.i64_in _ (by omega)]; omega
  have v40 : v3 < 40 := by omega
  clear hv3 hd
  go_wp2_with fail
  clear q1 q2 q3 v40 hv
  refine (impl_stitch _ _ w).mono ?_
  rintro e w' ⟨rfl, rfl⟩
  go_wp2_with fail
  refine (impl_stitch _ _ w).mono ?_
  rintro e w' ⟨rfl, rfl⟩
  go_wp2_with fail
  refine (impl_stitch _ _ w).mono ?_
  rintro e w' ⟨rfl, rfl⟩
  go_wp2_with fail
  refine (at_any a0 l0 c0 z0 4 _ w w0 hbig (by omega)).mono ?_
  rintro e w' ⟨⟨v4, hv4, rfl⟩, rfl⟩
  obtain ⟨speed, hsp⟩ : ∃ d : Nat, d = 1 + v4 * 7 := ⟨_, rfl⟩
  have q2 : (1 : Int) + (v4 : Int) * 7 = (speed : Int) := by omega
  have q3 : IntKind.i64.wrap (1 + (v4 : Int) * 7) = (speed : Int) := by rw [IntWalk.i64_in _ (by omega)]; omega
  have sp1 : 1 ≤ speed := by omega
  have sp2 : speed ≤ 2000 := by omega
  clear hsp
  go_wp2_with fail
  clear q2 q3 hv4
  refine (impl_sew _ _ w).mono ?_
  rintro e w' ⟨rfl, rfl⟩
  go_wp2_with fail
  refine (impl_thread _ w).mono ?_
  rintro e w' ⟨rfl, rfl⟩
  go_wp2_with fail
  refine (at_any a0 l0 c0 z0 5 _ w w0 hbig (by omega)).mono ?_
  rintro e w' ⟨⟨v5, hv5, rfl⟩, rfl⟩
  obtain ⟨bob, hbo⟩ : ∃ d : Nat, d = 1 + v5 * 10 := ⟨_, rfl⟩
  have q2 : (1 : Int) + (v5 : Int) * 10 = (bob : Int) := by omega
  have q3 : IntKind.i64.wrap (1 + (v5 : Int) * 10) = (bob : Int) := by rw [IntWalk.i64_in _ (by omega)]; omega
  have bo1 : 1 ≤ bob := by omega
  have bo2 : bob ≤ 2600 := by omega
  clear hbo
  go_wp2_with fail
  clear q2 q3 hv5
  refine (impl_bobbins _ _ w).mono ?_
  rintro e w' ⟨rfl, rfl⟩
  have hS := st_of (a0 := (a : Int)) (b := (b : Int)) (per := (per : Int)) (speed := (speed : Int)) (bobbin := (bob : Int)) (by omega) (by omega) (by omega) (by omega) (by omega) (by omega) (by omega) (by omega) (by omega) (by omega)
  obtain ⟨x, hx⟩ : ∃ x, x = stitches ((a : Int) * 8) per := ⟨_, rfl⟩
  obtain ⟨y, hy⟩ : ∃ y, y = stitches (b : Int) per := ⟨_, rfl⟩
  obtain ⟨z, hz⟩ : ∃ z, z = stitches ((a : Int) * 8 + b) per := ⟨_, rfl⟩
  rw [← hx, ← hy, ← hz] at hS
  rw [← hx, ← hy, ← hz]
  obtain ⟨m, hm⟩ : ∃ m, m = sewMin z speed := ⟨_, rfl⟩
  obtain ⟨t, ht⟩ : ∃ t, t = threadFor ((a : Int) * 8 + b) := ⟨_, rfl⟩
  rw [← hm, ← ht] at hS
  rw [← hm, ← ht]
  obtain ⟨n, hn⟩ : ∃ n, n = bobbins t bob := ⟨_, rfl⟩
  rw [← hn] at hS ⊢
  clear hx hy hz hm ht hn
  obtain ⟨A, hA⟩ : ∃ A, A = (a : Int) * 8 := ⟨_, rfl⟩
  rw [← hA] at hS ⊢
  have A0 : 0 ≤ A ∧ A ≤ 2040 := by omega
  clear hA
  have HS := Lib.hid hS
  clear hS
  go_wp2_with fail
  refine (drawLayout_any a0 l0 c0 z0 w w0 hbig).mono ?_
  rintro e w1 ⟨W, H, gr, N, cN, f, rfl, W0, W9, H0, H9, N1, N12, hP, ho, hb1⟩
  have hp : RowP 5 w1 w1.heap.size (some ⟨gr, 0, none⟩) N cN f := ho.rowP fun i hi j hj => (hP i hi).wf hj
  have s1 := hb1.size
  clear hP ho
  have hb2 : Below w.heap.size w (w1.alloc (.cells #[.int .i64 W, .int .i64 H, .slice (some ⟨gr, 0, none⟩) N cN] 70)) := hb1.alloc s1 _
  go_wp2_with fail
  refine (at_any a0 l0 c0 z0 6 w.heap.size _ (w0.keep fun p hp => hb2.cell hp) hbig (by omega)).mono ?_
  rintro e w' ⟨⟨v6, hv6, rfl⟩, rfl⟩
  obtain ⟨sc, hd⟩ : ∃ d, d = v6 % 40 + 1 := ⟨_, rfl⟩
  have q1 : (v6 : Int).tmod 40 = ((v6 % 40 : Nat) : Int) := by rw [Int.tmod_eq_emod_of_nonneg (by omega)]; rfl
  obtain ⟨v3, hv3⟩ : ∃ v3, v3 = v6 % 40 := ⟨_, rfl⟩
  rw [← hv3] at q1 hd
  have sc1 : 1 ≤ sc := by omega
  have sc2 : sc ≤ 40 := by omega
  have q2 : (1 : Int) + (v3 : Int) = (sc : Int) := by omega
  have q3 : IntKind.i64.wrap (1 + (v3 : Int)) = (sc : Int) := by rw [IntWalk.i64_in _ (by omega)]; omega
  have v40 : v3 < 40 := by omega
  clear hv3 hd
  go_upto_region 16 with fail
  clear q1 q2 q3 v40 hv6
  have hp2 : RowP 5 (w1.alloc (.cells #[.int .i64 W, .int .i64 H, .slice (some ⟨gr, 0, none⟩) N cN] 70)) w1.heap.size (some ⟨gr, 0, none⟩) N cN f := hp.keep fun p hp => ((Below.refl _ _).alloc (Nat.le_refl _) _).cell hp
  have G1 : (w1.alloc (.cells #[.int .i64 W, .int .i64 H, .slice (some ⟨gr, 0, none⟩) N cN] 70)).heap[w1.heap.size]? = some (.cells #[.int .i64 W, .int .i64 H, .slice (some ⟨gr, 0, none⟩) N cN] 70 (0, 0)) := heap_alloc_new w1 _
  have zg : w1.heap.size < (w1.alloc (.cells #[.int .i64 W, .int .i64 H, .slice (some ⟨gr, 0, none⟩) N cN] 70)).heap.size := by simp
  obtain ⟨g, hg⟩ : ∃ g, g = w1.heap.size := ⟨_, rfl⟩
  rw [← hg] at G1 hp2 zg ⊢
  obtain ⟨w2, hw2⟩ : ∃ w2, w2 = w1.alloc (.cells #[.int .i64 W, .int .i64 H, .slice (some ⟨gr, 0, none⟩) N cN] 70) := ⟨_, rfl⟩
  rw [← hw2] at G1 hp2 hb2 zg ⊢
  have x0 := blk_cell G1 0
  have x1 := blk_cell G1 1
  have x2 := blk_cell G1 2
  simp only [List.getElem?_toArray, List.getElem?_cons_zero, List.getElem?_cons_succ] at x0 x1 x2
  have zg2 : g ≤ w2.heap.size := by omega
  have zw : w.heap.size ≤ w2.heap.size := by omega
  clear hw2 hg G1 hp hb1
  have HT := Lib.hid (lthread_eq (W := W) (H := H) (n := N) (f := f) (c := (sc : Int)) (by omega) (by omega))
  have hsm := seam_mul (W := W) (H := H) (n := N) (f := f) (c := (sc : Int)) (by omega) (by omega)
  obtain ⟨SM, hSM⟩ : ∃ SM, SM = seam W H N f := ⟨_, rfl⟩
  rw [← hSM] at HT hsm
  obtain ⟨SS, hSS⟩ : ∃ SS, SS = SM * (sc : Int) := ⟨_, rfl⟩
  rw [← hSS] at HT hsm
  have S := HS.out
  obtain ⟨P1, hP1⟩ : ∃ P, P = A * (per : Int) := ⟨_, rfl⟩
  obtain ⟨MS, hMS⟩ : ∃ P, P = m * (speed : Int) := ⟨_, rfl⟩
  obtain ⟨M1, hM1⟩ : ∃ P, P = m - 1 := ⟨_, rfl⟩
  obtain ⟨MS1, hMS1⟩ : ∃ P, P = M1 * (speed : Int) := ⟨_, rfl⟩
  obtain ⟨T2, hT2⟩ : ∃ P, P = 2 * t := ⟨_, rfl⟩
  obtain ⟨AB, hAB⟩ : ∃ P, P = A + (b : Int) := ⟨_, rfl⟩
  obtain ⟨AB5, hAB5⟩ : ∃ P, P = 5 * AB := ⟨_, rfl⟩
  obtain ⟨NB, hNB⟩ : ∃ P, P = n * (bob : Int) := ⟨_, rfl⟩
  obtain ⟨NB2, hNB2⟩ : ∃ P, P = NB * 2 := ⟨_, rfl⟩
  obtain ⟨n1, hn1⟩ : ∃ P, P = n - 1 := ⟨_, rfl⟩
  obtain ⟨NB1, hNB1⟩ : ∃ P, P = n1 * (bob : Int) := ⟨_, rfl⟩
  obtain ⟨NB3, hNB3⟩ : ∃ P, P = NB1 * 2 := ⟨_, rfl⟩
  obtain ⟨x8, zxy, xb, yb, ap, m0, ms, ms2, ms1, ms3, tb, nb0, nb, nb2, nb1, nb3⟩ := S
  rw [← hP1] at x8 ap
  rw [← hMS] at ms ms2
  rw [← hM1, ← hMS1] at ms1 ms3
  rw [← hNB] at nb nb2
  rw [← hn1, ← hNB1] at nb1 nb3
  have k1 : decide (z ≤ z + 1) = true := decide_eq_true (by omega)
  have k2 : decide (z ≤ MS) = true := decide_eq_true ms
  have k4 : decide (AB5 ≤ T2) = true := decide_eq_true (by omega)
  have k5 : decide (T2 ≤ AB5 + 1) = true := decide_eq_true (by omega)
  have k6 : decide (t ≤ NB2) = true := decide_eq_true (by omega)
  obtain ⟨zm, hzm⟩ : ∃ q, q = max 1 z := ⟨_, rfl⟩
  obtain ⟨tm, htm⟩ : ∃ q, q = max 1 t := ⟨_, rfl⟩
  have k3 : decide (MS1 < zm) = true := decide_eq_true (by omega)
  have k7 : decide (NB3 < tm) = true := decide_eq_true (by omega)
  have m1 : (if 1 < z then z else 1) = zm := by rw [hzm]; split <;> omega
  have m2 : (if 1 < t then t else 1) = tm := by rw [htm]; split <;> omega
  clear hzm htm
  have u1 : IntKind.i64.wrap (x * 8) = P1 := by rw [IntWalk.i64_in _ (by omega)]; omega
  have u2 : IntKind.i64.wrap (A * (per : Int)) = P1 := by rw [← hP1]; exact IntWalk.i64_in _ (by omega)
  have u3 : IntKind.i64.wrap (x + y) = z := by rw [IntWalk.i64_in _ (by omega)]; omega
  have u4 : IntKind.i64.wrap (z + 1) = z + 1 := IntWalk.i64_in _ (by omega)
  have u5 : IntKind.i64.wrap (m * (speed : Int)) = MS := by rw [← hMS]; exact IntWalk.i64_in _ (by omega)
  have u6 : IntKind.i64.wrap (m - 1) = M1 := by rw [← hM1]; exact IntWalk.i64_in _ (by omega)
  have u7 : IntKind.i64.wrap (M1 * (speed : Int)) = MS1 := by rw [← hMS1]; exact IntWalk.i64_in _ (by omega)
  have u8 : IntKind.i64.wrap (2 * t) = T2 := by rw [← hT2]; exact IntWalk.i64_in _ (by omega)
  have u9 : IntKind.i64.wrap (A + (b : Int)) = AB := by rw [← hAB]; exact IntWalk.i64_in _ (by omega)
  have u10 : IntKind.i64.wrap (5 * AB) = AB5 := by rw [← hAB5]; exact IntWalk.i64_in _ (by omega)
  have u11 : IntKind.i64.wrap (AB5 + 1) = AB5 + 1 := IntWalk.i64_in _ (by omega)
  have u12 : IntKind.i64.wrap (n * (bob : Int)) = NB := by rw [← hNB]; exact IntWalk.i64_in _ (by omega)
  have u13 : IntKind.i64.wrap (NB * 2) = NB2 := by rw [← hNB2]; exact IntWalk.i64_in _ (by omega)
  have u14 : IntKind.i64.wrap (n - 1) = n1 := by rw [← hn1]; exact IntWalk.i64_in _ (by omega)
  have u15 : IntKind.i64.wrap (n1 * (bob : Int)) = NB1 := by rw [← hNB1]; exact IntWalk.i64_in _ (by omega)
  have u16 : IntKind.i64.wrap (NB1 * 2) = NB3 := by rw [← hNB3]; exact IntWalk.i64_in _ (by omega)
  have u17 : IntKind.i64.wrap (SM * (sc : Int)) = SS := by rw [← hSS]; exact IntWalk.i64_in _ (by omega)
  have HSM := Lib.hid hSM
  clear hSM hSS hP1 hMS hM1 hMS1 hT2 hAB hAB5 hNB hNB2 hn1 hNB1 hNB3 x8 zxy xb yb ap m0 ms ms2 ms1 ms3 tb nb0 nb nb2 nb1 nb3 hsm HS A0 b510 per1 per2 sp1 sp2 bo1 bo2
  dsimp only [List.append]
  go_region_held3 (fun w' => w'.cell? ⟨g, 0, none⟩ = some (.int .i64 W) ∧ w'.cell? ⟨g, 1, none⟩ = some (.int .i64 H) ∧ w'.cell? ⟨g, 2, none⟩ = some (.slice (some ⟨gr, 0, none⟩) N cN)) (first | go_keep | (exact ⟨s0, s1, s2⟩)) (first
    | (go_at_call 42; refine Calls.mono (impl_lthread W H (some ⟨gr, 0, none⟩) N cN f sc g _ (by exact hp2) (by exact zg2)) ?_; rintro e wc0 ⟨rfl, hbc0⟩; rw [HT.out]; replace hbc0 := below_drew hbc0; obtain ⟨hcc0, hfc0⟩ := bcell hbc0; have s0 := (hcc0 g 0 zg).trans x0; have s1 := (hcc0 g 1 zg).trans x1; have s2 := (hcc0 g 2 zg).trans x2; have hp3 := hp2.below' hbc0 zg2; have zg3 := Nat.le_trans zg2 hbc0.size; clear hcc0 hfc0)
    | (go_at_call 49; refine Calls.mono (spec_seam W H (some ⟨gr, 0, none⟩) N cN f g _ (by exact hp3) (by exact zg3)) ?_; rintro e wc1 ⟨rfl, hbc1⟩; rw [← HSM.out]; obtain ⟨hcc1, hfc1⟩ := bcell hbc1; have zc0 := hbc0.size; have s0 := (hcc1 g 0 (by omega)).trans s0; have s1 := (hcc1 g 1 (by omega)).trans s1; have s2 := (hcc1 g 2 (by omega)).trans s2; clear hcc1 hfc1)
    | (go_at_call 46; ((with_reducible refine (impl_thread SS _).mono ?_); rintro e wc2 ⟨rfl, rfl⟩)))
  have b9 := (hb2.trans (hbc0.mono zw)).trans (hbc1.mono (by have := hbc0.size; omega))
  go_wp2
  go_ret
  exact ⟨rfl, b9⟩

set_option maxRecDepth 100000 in
theorem lifted (os : Os) (started : os.Started) (H : Type) (enc : TypeId × Value → H) :
    ReturnsInHanded {} Try.checked os 10 .any (Rows.fnStitchesSpec.pre6 enc Try.prog Try.f10 Rows.fnStitchesRow.domain false) (Rows.fnStitchesSpec.post enc Try.prog Try.f10 false true false false) := by
  refine returnsInHanded_of_change (C := Try.checked) own started (by kernel_rfl) Try.func10
    (ChangeSpec.witness6 (enc := enc) (C := Try.checked) false ⟨#[], #[.slice none 0 0], []⟩ 8 (by kernel_rfl) (by kernel_rfl) (by kernel_rfl) (by kernel_rfl)) ?_
  intro W base args ds gs before hval0 hW hcnd _
  have hval : ∀ (j : Nat) t v, Try.f10.params[j]? = some t → args[j]? = some v → Value.okWide Try.prog W .any base t v := hval0
  have hW' := hW
  obtain ⟨p, q, hA0, hV, rfl, hfz, hnd⟩ := hW
  have hA : DataW.TrodAll enc Try.prog W 0 (fun _ => true) true Try.f10.params.toList args.toList ds p := hA0
  rw [Try.params10] at hA hval
  obtain ⟨v0, vs0, d0, ds0, p0, q0, hargs, rfl, rfl, h0, r0⟩ := trodAll_cons hA
  obtain ⟨rfl, rfl, rfl⟩ := trodAll_nil r0
  obtain rfl : args = #[v0] := by cases args; simp_all
  obtain ⟨rfl, rfl⟩ := trodVars_none hV
  have k0 := h0
  have lt0 : ∀ x ∈ p0, x.block < W.heap.size := by obtain ⟨m, hm⟩ := k0; exact DataW.trod_lt m _ _ _ hm
  obtain ⟨a0, l0, c0, rfl⟩ := okWide_slice Try.underlying49 (hval 0 49 v0 rfl rfl)
  obtain ⟨z0, w0⟩ := open_rowI Try.underlying49 Try.underlying5 (by kernel_rfl) (h0)
  clear hA0 hval0
  refine (walk a0 l0 c0 z0 W w0).mono fun e W' ⟨he, bel⟩ => ?_
  subst he
  exact ⟨_, rfl, _, _, _, [], _, [], hW', trodAll_mk1 (shut_bool Try.underlying4 _), (trodAll_cons_mk (Below.trod laidOut (by kernel_rfl) (of_decide_eq_true (by kernel_rfl)) k0 bel lt0) trodAll_mk0), rfl, bel.frame _, fun h => by cases h⟩

theorem over : Rows.fnStitchesRow.holds Try.pinned (OpenSpec.ofChange Rows.fnStitchesSpec) :=
  OpenClaim.holds_of_wide 10 Try.f10 rfl rfl rfl rfl rfl rfl rfl ⟨rfl, rfl, rfl, rfl, rfl⟩ rfl rfl rfl rfl rfl (by kernel_rfl) Try.func10 (by kernel_rfl)
    (of_decide_eq_true (by kernel_rfl)) (by unfold Func.isWrapper; first | (rw [if_pos (by decide +kernel)]; kernel_rfl) | (rw [if_neg (by decide +kernel)]; exact ⟨rfl, rfl⟩))
    (fun os started H enc _ => lifted os started H enc)

/-- The statement. -/
theorem proved : Rows.FnStitchesSaid := over
#print axioms proved
end Go.Proofs.Ythenjmjnooaokaa.fnStitches
