/-
  Contracts of the reference's sums, products and comparison of fractions. Conditions: both fractions are valid.
-/
import Derived.Test.YthkmhpkoanmbkaaDoorS2
import Derived.Test.YthkmhpkoanmbkaaDoorN17
namespace Go.Proofs.YthkmhpkoanmbkaaDoor
open Go.RowKit
set_option linter.unusedVariables false

/-- The program's answer, by the lowest terms. -/
theorem cm_red {n d m e N D p q : Int} (h1 : vfB n d = true) (h2 : vfB m e = true) (hq : 0 < q) (hD : 0 < D) (hc : CopI p q) (h : N * q = p * D) :
    cmB n d m e N D = (decide (absI p ≤ 1000000000000000000) && decide (q ≤ 1000000000000000000)) ∧ (cmB n d m e N D = true → cmN n d m e N D = p ∧ cmD n d m e N D = q) := by
  obtain ⟨k, k0, e1, e2, e3⟩ := red_factor hq hD hc h
  have a1 : absI N / gcdI (absI N) D = absI p := by
    rw [e3, e1]
    have hk : (k.natAbs : Int) = k := Int.natAbs_of_nonneg (by omega)
    have : absI (p * k) = absI p * k := by unfold absI; rw [Int.natAbs_mul, Int.natCast_mul, hk]
    rw [this]
    exact Int.mul_ediv_cancel _ (by omega)
  have a2 : D / gcdI (absI N) D = q := by
    rw [e3, e2]
    exact Int.mul_ediv_cancel _ (by omega)
  have a3 : cmB n d m e N D = (decide (absI p ≤ 1000000000000000000) && decide (q ≤ 1000000000000000000)) := by
    unfold cmB frB
    rw [h1, h2, a1, a2]; rfl
  refine ⟨a3, fun hb => ⟨?_, ?_⟩⟩
  · unfold cmN
    rw [if_pos hb, a1]
    have : decide (N < 0) = decide (p < 0) := by
      refine decide_eq_decide.2 ⟨fun hn => ?_, fun hp => ?_⟩
      · by_cases c : p < 0
        · exact c
        · have := Int.mul_nonneg (show 0 ≤ p by omega) (show 0 ≤ k by omega)
          omega
      · have := Int.mul_neg_of_neg_of_pos hp k0
        omega
    rw [this]
    exact sg_abs p
  · unfold cmD
    rw [if_pos hb, a2]
/-- Lowest terms, as the reference makes them. -/
theorem fm_red {n e : Int} (he : 0 < e) : ∃ k : Int, 0 < k ∧ n = fmN n e * k ∧ e = fmD n e * k ∧ CopI (fmN n e) (fmD n e) ∧ 0 < fmD n e := by
  obtain ⟨p, q, k, q0, k0, h1, h2, h3, h4, h5, h6⟩ := red_exists (N := n) he
  have e1 : fmN n e = p := by unfold fmN; rw [if_neg (by omega), h4, h5]
  have e2 : fmD n e = q := by unfold fmD; rw [if_neg (by omega), h4, h6]
  rw [e1, e2]
  exact ⟨k, k0, h1, h2, h3, q0⟩
theorem abs_factor {n p k M : Int} (h : n = p * k) (k0 : 0 < k) (hn : -M ≤ n ∧ n ≤ M) : -M ≤ p ∧ p ≤ M := by
  by_cases c : 0 ≤ p
  · have : p * 1 ≤ p * k := Int.mul_le_mul_of_nonneg_left (by omega) c
    omega
  · have : (-p) * 1 ≤ (-p) * k := Int.mul_le_mul_of_nonneg_left (by omega) (by omega)
    have e2 : (-p) * k = -(p * k) := Int.neg_mul _ _
    rw [e2] at this
    omega
theorem absI_mul (a b : Int) : absI (a * b) = absI a * absI b := by unfold absI; rw [Int.natAbs_mul]; simp
end Go.Proofs.YthkmhpkoanmbkaaDoor
