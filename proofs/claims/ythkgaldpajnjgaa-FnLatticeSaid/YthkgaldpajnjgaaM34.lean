/-
  The drawn point and the drawn wave of FnLattice. Plain numbers, no program.
-/
import Derived.Test.YthkgaldpajnjgaaM33
namespace Go.Proofs.Ythkgaldpajnjgaa
open Go.RowKit
set_option linter.unusedVariables false

/-- Behind k rounds of the second loop: the state, the power, the first element's sum, the point, the wave's rest. -/
def drX (m f x : Int) : Nat → Int
  | 0 => x
  | k + 1 => drX m f x k * f % m
def drP (m f : Int) : Nat → Int
  | 0 => 1
  | k + 1 => drP m f k * f % m
def drF (m f : Int) (gy : Nat → Int) : Nat → Int
  | 0 => 0
  | k + 1 => drF m f gy k + drP m f (k + 1) * gy (k + 1)
def drT (m f x : Int) (gd : Nat → Int) : Nat → List Int
  | 0 => [x]
  | k + 1 => drT m f x gd k ++ [drX m f x (k + 1) - m * gd (k + 1)]
def drR (gy : Nat → Int) : Nat → List Int
  | 0 => [0]
  | k + 1 => drR gy k ++ [gy (k + 1)]
theorem drT_len (m f x : Int) (gd : Nat → Int) : ∀ k, (drT m f x gd k).length = k + 1
  | 0 => rfl
  | k + 1 => by simp [drT, drT_len m f x gd k]
theorem drR_len (gy : Nat → Int) : ∀ k, (drR gy k).length = k + 1
  | 0 => rfl
  | k + 1 => by simp [drR, drR_len gy k]
theorem drX_bd {m f x : Int} (hm : 2 ≤ m ∧ m ≤ 100000) (hf : 0 ≤ f ∧ f ≤ m - 1) (hx : 0 ≤ x ∧ x ≤ 100000) : ∀ k, 0 ≤ drX m f x k ∧ drX m f x k ≤ 100000
  | 0 => hx
  | k + 1 => (pmod hm hf (drX_bd hm hf hx k)).2.2.2
theorem drP_bd {m f : Int} (hm : 2 ≤ m ∧ m ≤ 100000) (hf : 0 ≤ f ∧ f ≤ m - 1) : ∀ k, 0 ≤ drP m f k ∧ drP m f k ≤ 100000
  | 0 => by simp [drP]
  | k + 1 => (pmod hm hf (drP_bd hm hf k)).2.2.2
theorem drF_bd {m f : Int} {gy : Nat → Int} (hm : 2 ≤ m ∧ m ≤ 100000) (hf : 0 ≤ f ∧ f ≤ m - 1) (hy : ∀ k, -10 ≤ gy k ∧ gy k ≤ 10) : ∀ k : Nat, -(k * 1000000 : Int) ≤ drF m f gy k ∧ drF m f gy k ≤ k * 1000000
  | 0 => by simp [drF]
  | k + 1 => by
    have h1 := drF_bd hm hf hy k
    have h2 := drP_bd hm hf (k + 1)
    have h3 := mul_in (A := 100000) (by omega) h2.2 (hy (k + 1)).1 (hy (k + 1)).2
    simp only [drF]
    omega
/-- Numbers of one round. -/
theorem dr_facts {m f x : Int} {gd gy : Nat → Int} {k : Nat} (hm : 2 ≤ m ∧ m ≤ 100000) (hf : 0 ≤ f ∧ f ≤ m - 1) (hx : 0 ≤ x ∧ x ≤ 100000) (hd : ∀ k, gd k = 0 ∨ gd k = 1) (hy : ∀ k, -10 ≤ gy k ∧ gy k ≤ 10) (hk : k ≤ 3) :
    ∃ X X' P P' F F' xf pf d md t Y u : Int, (drX m f x k = X ∧ drP m f k = P ∧ drF m f gy k = F ∧ drX m f x (k + 1) = X' ∧ drP m f (k + 1) = P' ∧ drF m f gy (k + 1) = F' ∧ gd (k + 1) = d ∧ gy (k + 1) = Y ∧ drT m f x gd (k + 1) = drT m f x gd k ++ [t] ∧ drR gy (k + 1) = drR gy k ++ [Y]) ∧
      X * f = xf ∧ xf.tmod m = X' ∧ m * d = md ∧ X' - md = t ∧ P * f = pf ∧ pf.tmod m = P' ∧ P' * Y = u ∧ F + u = F' ∧
      (wrap64 xf = xf ∧ IntKind.i64.wrap xf = xf) ∧ (wrap64 md = md ∧ IntKind.i64.wrap md = md) ∧ (wrap64 t = t ∧ IntKind.i64.wrap t = t) ∧ (wrap64 pf = pf ∧ IntKind.i64.wrap pf = pf) ∧ (wrap64 u = u ∧ IntKind.i64.wrap u = u) ∧ (wrap64 F' = F' ∧ IntKind.i64.wrap F' = F') ∧ (-10 ≤ Y ∧ Y ≤ 10) := by
  have a1 := drX_bd hm hf hx k
  have a2 := drP_bd hm hf k
  have a3 := drF_bd hm hf hy k
  have a4 := drF_bd hm hf hy (k + 1)
  have b1 := pmod hm hf a1
  have b2 := pmod hm hf a2
  have b3 := drX_bd hm hf hx (k + 1)
  have b4 := drP_bd hm hf (k + 1)
  have c1 : 0 ≤ m * gd (k + 1) ∧ m * gd (k + 1) ≤ 100000 := by
    rcases hd (k + 1) with h | h <;> rw [h] <;> omega
  have c2 := mul_in (A := 100000) (by omega) b4.2 (hy (k + 1)).1 (hy (k + 1)).2
  have hk3 : (k : Int) ≤ 3 := by omega
  refine ⟨_, _, _, _, _, _, _, _, _, _, _, _, _, ⟨rfl, rfl, rfl, rfl, rfl, rfl, rfl, rfl, rfl, rfl⟩, rfl, ?_, rfl, rfl, rfl, ?_, rfl, rfl, w64 (by omega) (by omega), w64 (by omega) (by omega), w64 (by omega) (by omega), w64 (by omega) (by omega), w64 (by omega) (by omega), w64 (by omega) (by omega), hy (k + 1)⟩
  · exact b1.2.2.1
  · exact b2.2.2.1
theorem nx_eq {m f l : Int} : nx m f l = l * f % m := by
  unfold nx
  rw [Int.mul_emod, Int.emod_emod, ← Int.mul_emod, Int.mul_comm]
theorem nx_off {m f X d : Int} : nx m f (X - m * d) = X * f % m := by
  rw [nx_eq]
  have e : (X - m * d) * f = X * f - m * (d * f) := by grind
  rw [e]
  exact Int.sub_mul_emod_self_left _ _ _
/-- The drawn point's squares. -/
theorem drT_law {m f x : Int} {ys : List Int} {gd : Nat → Int} {K dim : Nat} (hK : K = 1 ∨ K = 2) (hD : K + 1 = dim) (hm : 2 ≤ m ∧ m ≤ 100000) (hx : 0 ≤ x) (hd : ∀ k, gd k = 0 ∨ gd k = 1) (hl : LeastPt dim m f ys) (hy : sqs ys ≤ m * m) :
    sqs (drT m f x gd K) = 0 ∨ sqs ys ≤ sqs (drT m f x gd K) := by
  have step : ∀ (r : Int) (i : Nat), (r - m * gd i = r ∨ r - m * gd i = r - m) := fun r i => by
    rcases hd i with h | h <;> rw [h]
    · left; omega
    · right; omega
  rcases hK with rfl | rfl
  · show sqs [x, x * f % m - m * gd 1] = 0 ∨ sqs ys ≤ sqs [x, x * f % m - m * gd 1]
    refine point_law hm.1 hl hy hx (by simp; omega) ⟨?_, trivial⟩
    rw [nx_eq]
    exact step _ 1
  · show sqs [x, x * f % m - m * gd 1, x * f % m * f % m - m * gd 2] = 0 ∨ sqs ys ≤ sqs [x, x * f % m - m * gd 1, x * f % m * f % m - m * gd 2]
    refine point_law hm.1 hl hy hx (by simp; omega) ⟨?_, ?_, trivial⟩
    · rw [nx_eq]; exact step _ 1
    · rw [nx_off]; exact step _ 2
/-- The drawn wave's squares. -/
theorem drR_law {m f : Int} {ys : List Int} {gy : Nat → Int} {K : Nat} (hK : K = 1 ∨ K = 2) (hm : 2 ≤ m ∧ m ≤ 100000) (hf : 0 ≤ f ∧ f ≤ m - 1) (hl : LeastWv K m f ys) {z : Int} (hz : -(drF m f gy K).tmod m = z) :
    sqs ((drR gy K).set 0 z) = 0 ∨ sqs ys ≤ sqs ((drR gy K).set 0 z) := by
  obtain ⟨b1, b2, b3⟩ := fm_law (n := drF m f gy K) (show 0 < m by omega)
  have hdv : m ∣ z + drF m f gy K := by
    rw [← hz]
    refine ⟨(drF m f gy K).tdiv m, ?_⟩
    have := Int.mul_tdiv_add_tmod (drF m f gy K) m
    omega
  have h1f := one_mul_mod hf
  rcases hK with rfl | rfl
  · show sqs [z, gy 1] = 0 ∨ sqs ys ≤ sqs [z, gy 1]
    have e : drF m f gy 1 = lin m f f [gy 1] := by show 0 + (1 * f % m) * gy 1 = f * gy 1 + 0; rw [h1f]; omega
    rw [e] at hdv
    exact wave_law hm.1 hl rfl (by omega) (by omega) hdv
  · show sqs [z, gy 1, gy 2] = 0 ∨ sqs ys ≤ sqs [z, gy 1, gy 2]
    have e : drF m f gy 2 = lin m f f [gy 1, gy 2] := by show 0 + (1 * f % m) * gy 1 + (1 * f % m * f % m) * gy 2 = f * gy 1 + ((f * f % m) * gy 2 + 0); rw [h1f]; omega
    rw [e] at hdv
    exact wave_law hm.1 hl rfl (by omega) (by omega) hdv
theorem small_T {m f x : Int} {gd : Nat → Int} {K : Nat} (hK : K = 1 ∨ K = 2) (hm : 2 ≤ m ∧ m ≤ 100000) (hf : 0 ≤ f ∧ f ≤ m - 1) (hx : 0 ≤ x ∧ x ≤ 100000) (hd : ∀ k, gd k = 0 ∨ gd k = 1) : Small (drT m f x gd K) := by
  have key : ∀ k j, j < (drT m f x gd k).length → -400000 ≤ (drT m f x gd k).getD j 0 ∧ (drT m f x gd k).getD j 0 ≤ 400000 := by
    intro k
    induction k with
    | zero => intro j hj; have e : j = 0 := by simpa [drT] using hj
              subst e; show -400000 ≤ x ∧ x ≤ 400000; omega
    | succ k ih =>
      intro j hj
      rw [drT_len] at hj
      have hx2 := drX_bd hm hf hx (k + 1)
      simp only [drT]
      by_cases h : j < (drT m f x gd k).length
      · rw [getD_left h]; exact ih j h
      · rw [drT_len] at h
        have e : j = k + 1 := by omega
        subst e
        rw [getD_last (drT_len m f x gd k)]
        rcases hd (k + 1) with h | h <;> rw [h] <;> omega
  exact key K
theorem small_R {m z : Int} {gy : Nat → Int} {K : Nat} (hz : -100000 ≤ z ∧ z ≤ 100000) (hy : ∀ k, -10 ≤ gy k ∧ gy k ≤ 10) : Small ((drR gy K).set 0 z) := by
  have key : ∀ k j, -10 ≤ (drR gy k).getD j 0 ∧ (drR gy k).getD j 0 ≤ 10 := by
    intro k
    induction k with
    | zero => intro j; cases j with
              | zero => show (-10 : Int) ≤ 0 ∧ (0 : Int) ≤ 10; omega
              | succ j => show (-10 : Int) ≤ ([0] : List Int).getD (j + 1) 0 ∧ ([0] : List Int).getD (j + 1) 0 ≤ 10; simp
    | succ k ih =>
      intro j
      simp only [drR]
      by_cases h : j < (drR gy k).length
      · rw [getD_left h]; exact ih j
      · rw [drR_len] at h
        by_cases e : j = k + 1
        · subst e
          rw [getD_last (drR_len gy k)]; exact hy (k + 1)
        · have : (drR gy k ++ [gy (k + 1)]).length ≤ j := by simp [drR_len]; omega
          simp [List.getD, List.getElem?_eq_none this]
  intro j hj
  cases j with
  | zero =>
    have : 0 < (drR gy K).length := by rw [drR_len]; omega
    simp [List.getD, this]; omega
  | succ j =>
    have := key K (j + 1)
    simp only [List.getD, List.getElem?_set_ne (show 0 ≠ j + 1 by omega)] at this ⊢
    omega
end Go.Proofs.Ythkgaldpajnjgaa
