/-
  Laws of combined fractions for FnFractions: what a combination answers is known from any valid fraction of the same value. Conditions stand in each law.
-/
import Derived.Test.YthkmhpkoanmbkaaDoorS3
namespace Go.Proofs.YthkmhpkoanmbkaaDoor
open Go.RowKit
set_option linter.unusedVariables false

theorem vfB_mk {p q : Int} (hp : absI p ≤ 1000000000000000000) (hq : 0 < q) (hq2 : q ≤ 1000000000000000000) (hc : CopI p q) : vfB p q = true := by
  unfold vfB
  have h1 := hp
  unfold absI at h1
  rw [inR_mk (show 1 ≤ q by omega) hq2, inR_mk (show -1000000000000000000 ≤ p by omega) (show p ≤ 1000000000000000000 by omega), CopI.to (by omega) hc]
  rfl
/-- A valid fraction of the value N / D is the answer. -/
theorem cm_is {n d m e N D p q : Int} (h1 : vfB n d = true) (h2 : vfB m e = true) (h3 : vfB p q = true) (hD : 0 < D) (h : N * q = p * D) :
    cmB n d m e N D = true ∧ cmN n d m e N D = p ∧ cmD n d m e N D = q := by
  obtain ⟨v1, v2, v3⟩ := vfB_true h3
  obtain ⟨c1, c2⟩ := cm_red h1 h2 (show 0 < q by omega) hD (CopI.of (by omega) v3) h
  have hb : cmB n d m e N D = true := by
    rw [c1, decide_eq_true (show absI p ≤ 1000000000000000000 by unfold absI; omega), decide_eq_true v1.2]
    rfl
  exact ⟨hb, c2 hb⟩
/-- Where both parts are small there is an answer. -/
theorem cm_ex {n d m e N D : Int} (h1 : vfB n d = true) (h2 : vfB m e = true) (hD : 0 < D) (hD2 : D ≤ 1000000000000000000) (hN : absI N ≤ 1000000000000000000) :
    ∃ p q, vfB p q = true ∧ N * q = p * D ∧ 0 < q ∧ q ≤ D ∧ absI p ≤ absI N ∧ cmB n d m e N D = true ∧ cmN n d m e N D = p ∧ cmD n d m e N D = q := by
  obtain ⟨p, q, k, q0, k0, e1, e2, hc, _⟩ := red_exists (N := N) hD
  have hq : q ≤ D := by
    rw [e2]
    have := Int.mul_le_mul_of_nonneg_left (show 1 ≤ k by omega) (show 0 ≤ q by omega)
    omega
  have hp : absI p ≤ absI N := by
    rw [e1]
    have hk : (k.natAbs : Int) = k := Int.natAbs_of_nonneg (by omega)
    have e3 : absI (p * k) = absI p * k := by unfold absI; rw [Int.natAbs_mul, Int.natCast_mul, hk]
    rw [e3]
    have := Int.mul_le_mul_of_nonneg_left (show 1 ≤ k by omega) (absI_nonneg p)
    omega
  have hv : vfB p q = true := vfB_mk (by omega) q0 (by omega) hc
  have hh : N * q = p * D := by rw [e1, e2]; grind
  exact ⟨p, q, hv, hh, q0, hq, hp, cm_is h1 h2 hv hD hh⟩
/-- Added and taken away again. -/
theorem back_law {n d m e p q : Int} (hd : 0 < d) (he : 0 < e) (h : (n * e + m * d) * q = p * (d * e)) : (p * e - m * q) * d = n * (q * e) := by
  grind
/-- Multiplied and divided again. -/
theorem div_law {n d m e p q : Int} (h : (n * m) * q = p * (d * e)) : (p * e) * d = n * (q * m) := by
  grind
/-- The third summand. -/
theorem third_law {n d m e p1 q1 p3 q3 : Int} (he : 0 < e) (h1 : (n * e + m * d) * q1 = p1 * (d * e)) (h3 : (2 * n * e + m * d) * q3 = p3 * (d * e)) : (p1 * d + n * q1) * q3 = p3 * (q1 * d) := by
  refine Int.eq_of_mul_eq_mul_right (show e ≠ 0 by omega) ?_
  calc (p1 * d + n * q1) * q3 * e = (p1 * (d * e) + n * q1 * e) * q3 := by grind
    _ = ((n * e + m * d) * q1 + n * q1 * e) * q3 := by rw [h1]
    _ = q1 * ((2 * n * e + m * d) * q3) := by grind
    _ = q1 * (p3 * (d * e)) := by rw [h3]
    _ = p3 * (q1 * d) * e := by grind
/-- Twice the first, and the second. -/
theorem twice_law {n d m e t u p3 q3 : Int} (hd : 0 < d) (h1 : (n * 2) * u = t * (d * 1)) (h3 : (2 * n * e + m * d) * q3 = p3 * (d * e)) : (t * e + m * u) * q3 = p3 * (u * e) := by
  refine Int.eq_of_mul_eq_mul_right (show d ≠ 0 by omega) ?_
  calc (t * e + m * u) * q3 * d = (t * (d * 1) * e + m * u * d) * q3 := by grind
    _ = ((n * 2) * u * e + m * u * d) * q3 := by rw [h1]
    _ = u * ((2 * n * e + m * d) * q3) := by grind
    _ = u * (p3 * (d * e)) := by rw [h3]
    _ = p3 * (u * e) * d := by grind
/-- What B10Fraction draws is a valid fraction with small parts. -/
theorem drawn_frac {n d : Int} (hn : -20 ≤ n ∧ n ≤ 60000000) (hd : 1 ≤ d ∧ d ≤ 40) : vfB (fmN n d) (fmD n d) = true ∧ (-60000000 ≤ fmN n d ∧ fmN n d ≤ 60000000) ∧ (1 ≤ fmD n d ∧ fmD n d ≤ 40) := by
  obtain ⟨k, k0, e1, e2, hc, h0⟩ := fm_red (n := n) (e := d) (by omega)
  have b1 := abs_factor (M := 60000000) e1 k0 (by omega)
  have b2 := abs_factor (M := 40) e2 k0 (by omega)
  exact ⟨vfB_mk (by unfold absI; omega) h0 (by omega) hc, b1, by omega, by omega⟩
end Go.Proofs.YthkmhpkoanmbkaaDoor
