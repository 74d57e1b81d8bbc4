/- Plain facts of the law FnStitches. No program in sight. -/
import Derived.Test.YthenjmjnooaokaaPureA
namespace Go.Proofs.Ythenjmjnooaokaa
theorem up_ge {z s : Int} (hz : 0 ≤ z) (hs : 1 ≤ s) : z ≤ upI z s * s ∧ (upI z s - 1) * s ≤ z - 1 ∧ 0 ≤ upI z s ∧ upI z s ≤ z := by
  unfold upI
  have h1 := Int.emod_add_mul_ediv (z + s - 1) s
  have h2 := Int.emod_nonneg (z + s - 1) (show s ≠ 0 by omega)
  have h3 := Int.emod_lt_of_pos (z + s - 1) (show 0 < s by omega)
  have h0 : 0 ≤ (z + s - 1) / s := Int.ediv_nonneg (by omega) (by omega)
  generalize (z + s - 1) / s = u at *
  generalize (z + s - 1) % s = r at *
  have e1 : u * s = s * u := Int.mul_comm u s
  have e2 : (u - 1) * s = s * u - s := by rw [Int.sub_mul, Int.one_mul, e1]
  refine ⟨by omega, by omega, h0, ?_⟩
  rcases (by omega : u ≤ 0 ∨ 1 ≤ u) with h | h
  · omega
  · have h4 : (u - 1) * 1 ≤ (u - 1) * s := Int.mul_le_mul_of_nonneg_left (by omega) (by omega)
    omega
/-- what the law asks of the numbers -/
structure St (a b per speed bobbin x y z m t n : Int) : Prop where
  x8 : x * 8 = a * per
  zxy : z = x + y
  x0 : 0 ≤ x ∧ x ≤ 11000
  y0 : 0 ≤ y ∧ y ≤ 3000
  ap : 0 ≤ a * per ∧ a * per ≤ 100000
  m0 : 0 ≤ m ∧ m ≤ 20000
  ms : z ≤ m * speed
  ms2 : m * speed ≤ 100000
  ms1 : (m - 1) * speed ≤ z - 1
  ms3 : -3000 ≤ (m - 1) * speed
  t0 : 5 * (a + b) ≤ 2 * t ∧ 2 * t ≤ 5 * (a + b) + 1
  n0 : 0 ≤ n ∧ n ≤ 20000
  nb : t ≤ n * bobbin * 2
  nb2 : n * bobbin ≤ 100000
  nb1 : (n - 1) * bobbin * 2 ≤ t - 1
  nb3 : -3000 ≤ (n - 1) * bobbin
theorem st_of {a0 b per speed bobbin : Int} (ha : 0 ≤ a0) (ha2 : a0 ≤ 255) (hb : 0 ≤ b) (hb2 : b ≤ 510) (hp : 1 ≤ per) (hp2 : per ≤ 40) (hs : 1 ≤ speed) (hs2 : speed ≤ 2000) (hq : 1 ≤ bobbin) (hq2 : bobbin ≤ 2600) :
    St (a0 * 8) b per speed bobbin (stitches (a0 * 8) per) (stitches b per) (stitches (a0 * 8 + b) per) (sewMin (stitches (a0 * 8 + b) per) speed) (threadFor (a0 * 8 + b)) (bobbins (threadFor (a0 * 8 + b)) bobbin) := by
  have p1 : 0 ≤ a0 * per ∧ a0 * per ≤ 255 * 40 := ⟨Int.mul_nonneg ha (by omega), Int.mul_le_mul ha2 hp2 (by omega) (by omega)⟩
  have p2 : 0 ≤ b * per ∧ b * per ≤ 510 * 40 := ⟨Int.mul_nonneg hb (by omega), Int.mul_le_mul hb2 hp2 (by omega) (by omega)⟩
  have e1 : a0 * 8 * per = 8 * (a0 * per) := by rw [Int.mul_comm a0 8, Int.mul_assoc]
  have e2 : (a0 * 8 + b) * per = 8 * (a0 * per) + b * per := by rw [Int.add_mul, e1]
  have ix : inB per 1 40 = true := inB_mk hp hp2
  have x1 : stitches (a0 * 8) per = a0 * per := by
    unfold stitches upI
    rw [inB_mk (by omega) (by omega), ix, e1]
    simp only [Bool.and_self, if_true]
    omega
  have y1 : stitches b per = (b * per + 7) / 8 := by
    unfold stitches upI
    rw [inB_mk (by omega) (by omega), ix]
    simp only [Bool.and_self, if_true]
    omega
  have z1 : stitches (a0 * 8 + b) per = a0 * per + (b * per + 7) / 8 := by
    unfold stitches upI
    rw [inB_mk (by omega) (by omega), ix, e2]
    simp only [Bool.and_self, if_true]
    omega
  rw [x1, y1, z1]
  generalize a0 * per = P at *
  generalize b * per = Q at *
  obtain ⟨y, hy⟩ : ∃ y, y = (Q + 7) / 8 := ⟨_, rfl⟩
  rw [← hy]
  have y0 : 0 ≤ y ∧ y ≤ 3000 := by omega
  have m1 : sewMin (P + y) speed = upI (P + y) speed := by
    unfold sewMin
    rw [inB_mk (by omega) (by omega), inB_mk (by omega) (by omega)]
    rfl
  have t1 : threadFor (a0 * 8 + b) = ((a0 * 8 + b) * 5 + 1) / 2 := by
    unfold threadFor upI
    rw [inB_mk (by omega) (by omega)]
    simp only [if_true]
    omega
  rw [m1, t1]
  obtain ⟨t, ht⟩ : ∃ t, t = ((a0 * 8 + b) * 5 + 1) / 2 := ⟨_, rfl⟩
  rw [← ht]
  have tb : 0 ≤ t ∧ t ≤ 7000 := by omega
  have n1 : bobbins t bobbin = upI ((t + 1) / 2) bobbin := by
    unfold bobbins
    rw [inB_mk (by omega) (by omega), inB_mk (by omega) (by omega)]
    simp only [Bool.and_self, if_true]
    unfold upI
    congr 2
    omega
  rw [n1]
  obtain ⟨h, hh⟩ : ∃ h, h = (t + 1) / 2 := ⟨_, rfl⟩
  rw [← hh]
  obtain ⟨u1, u2, u3, u4⟩ := up_ge (show 0 ≤ P + y by omega) hs
  obtain ⟨v1, v2, v3, v4⟩ := up_ge (show 0 ≤ h by omega) hq
  generalize upI (P + y) speed = m at *
  generalize upI h bobbin = n at *
  have e3 : (m - 1) * speed = m * speed - speed := by rw [Int.sub_mul, Int.one_mul]
  have e4 : (n - 1) * bobbin = n * bobbin - bobbin := by rw [Int.sub_mul, Int.one_mul]
  refine ⟨by omega, rfl, by omega, y0, by omega, by omega, u1, by omega, u2, by omega, by omega, by omega, by omega, by omega, ?_, by omega⟩
  omega
end Go.Proofs.Ythenjmjnooaokaa
