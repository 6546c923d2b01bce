/-
  The sum of three fractions of which the first is the third, for FnFractions. Conditions: both are valid, with small parts.
-/
import Derived.Test.YthkmhpkoanmbkaaDoorM21
import Derived.Test.YthkmhpkoanmbkaaDoorN18
namespace Go.Proofs.YthkmhpkoanmbkaaDoor
open Go.RowKit
set_option linter.unusedVariables false

theorem sumS_is {n d m e p q : Int} (h1 : vfB n d = true) (h2 : vfB m e = true) (h3 : vfB p q = true) (hD : 0 < d * e) (h : (n * e + m * d) * q = p * (d * e)) : sumS (n, d) (m, e) = some (p, q) := by
  obtain ⟨a1, a2, a3⟩ := cm_is h1 h2 h3 hD h
  unfold sumS
  simp only
  rw [if_pos a1, a2, a3]
theorem sum_three {n d m e p1 q1 p3 q3 : Int} (h1 : vfB n d = true) (h2 : vfB m e = true) (k1 : vfB p1 q1 = true) (k3 : vfB p3 q3 = true) (e1 : (n * e + m * d) * q1 = p1 * (d * e)) (e3 : (2 * n * e + m * d) * q3 = p3 * (d * e)) :
    sumA [(n, d), (m, e), (n, d)] = some (p3, q3) := by
  obtain ⟨v1, _, _⟩ := vfB_true h1
  obtain ⟨v2, _, _⟩ := vfB_true h2
  obtain ⟨v3, _, _⟩ := vfB_true k1
  have d0 : 0 < d := by omega
  have e0 : 0 < e := by omega
  have q0 : 0 < q1 := by omega
  have s1 : sumS (0, 1) (n, d) = some (n, d) := sumS_is (by decide) h1 h1 (by omega) (by grind)
  have s2 : sumS (n, d) (m, e) = some (p1, q1) := sumS_is h1 h2 k1 (Int.mul_pos d0 e0) e1
  have s3 : sumS (p1, q1) (n, d) = some (p3, q3) := sumS_is k1 h1 k3 (Int.mul_pos q0 d0) (third_law e0 e1 e3)
  have hv : vfL [(n, d), (m, e), (n, d)] = true := by simp [vfL, h1, h2]
  unfold sumA
  rw [hv]
  simp [sumTo, s1, s2, s3]
theorem made_six {n d : Int} (h : vfB n d = true) : fmN (n * 6) (d * 6) = n ∧ fmD (n * 6) (d * 6) = d := by
  obtain ⟨v1, _, v3⟩ := vfB_true h
  have r := red_unique (n := n) (d := d) (N := n * 6) (D := d * 6) (by omega) (by omega) (CopI.of (by omega) v3) (by grind)
  unfold fmN fmD
  rw [if_neg (by omega), if_neg (by omega)]
  exact r
theorem same_sign {N D p q : Int} (hD : 0 < D) (hq : 0 < q) (h : N * q = p * D) : (p < 0 ↔ N < 0) ∧ (p = 0 ↔ N = 0) := by
  refine ⟨⟨fun hp => ?_, fun hN => ?_⟩, ⟨fun hp => ?_, fun hN => ?_⟩⟩
  · have := Int.mul_neg_of_neg_of_pos hp hD
    by_cases c : N < 0
    · exact c
    · have := Int.mul_nonneg (show 0 ≤ N by omega) (show 0 ≤ q by omega); omega
  · have := Int.mul_neg_of_neg_of_pos hN hq
    by_cases c : p < 0
    · exact c
    · have := Int.mul_nonneg (show 0 ≤ p by omega) (show 0 ≤ D by omega); omega
  · rw [hp, Int.zero_mul] at h
    rcases Int.mul_eq_zero.1 h with h | h
    · exact h
    · omega
  · rw [hN, Int.zero_mul] at h
    rcases Int.mul_eq_zero.1 h.symm with h | h
    · exact h
    · omega
theorem div_back {n d m e p q : Int} (h1 : vfB n d = true) (h2 : vfB m e = true) (h3 : vfB p q = true) (hm : m ≠ 0) (h : (n * m) * q = p * (d * e)) : dvB p q m e = true ∧ dvP p q m e = n ∧ dvQ p q m e = d := by
  obtain ⟨v3, _, _⟩ := vfB_true h3
  have hD : 0 < q * absI m := Int.mul_pos (by omega) (by unfold absI; omega)
  have hh : dvN p m e * d = n * (q * absI m) := by
    have h4 := div_law h
    unfold dvN
    split
    · rename_i c
      have e1 : absI m = -m := by unfold absI; omega
      rw [e1]
      grind
    · have e1 : absI m = m := by unfold absI; omega
      rw [e1]
      exact h4
  obtain ⟨a1, a2, a3⟩ := cm_is h3 h2 h1 hD hh
  have hz : (m == 0) = false := beq_eq_false_iff_ne.2 hm
  refine ⟨?_, ?_, ?_⟩
  · unfold dvB; rw [a1, hz]; rfl
  · unfold dvP; rw [if_neg hm, a2]
  · unfold dvQ; rw [if_neg hm, a3]
end Go.Proofs.YthkmhpkoanmbkaaDoor
