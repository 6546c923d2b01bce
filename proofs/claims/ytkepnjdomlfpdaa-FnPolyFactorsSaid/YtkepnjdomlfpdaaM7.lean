/-
  The loops of PowerOfX and FactorsOf as plain functions on numbers. No program.
-/
import Derived.Test.YtkepnjdomlfpdaaM5
namespace Go.Proofs.Ytkepnjdomlfpdaa
set_option linter.unusedVariables false

def pw (p n o s : Nat) : Nat := if h : n = 0 then o else pw p (n / 2) (if n % 2 = 1 then (dv p 0 (mulp o s)).2 else o) (dv p 0 (mulp s s)).2
termination_by n
decreasing_by omega
theorem pw_end (p o s : Nat) : pw p 0 o s = o := by rw [pw, dif_pos rfl]
theorem pw_odd {p n o s : Nat} (h : n % 2 = 1) : pw p n o s = pw p (n / 2) (dv p 0 (mulp o s)).2 (dv p 0 (mulp s s)).2 := by
  rw [pw, dif_neg (by omega), if_pos h]
theorem pw_even {p n o s : Nat} (h0 : n ≠ 0) (h : ¬ n % 2 = 1) : pw p n o s = pw p (n / 2) o (dv p 0 (mulp s s)).2 := by
  rw [pw, dif_neg h0, if_neg h]
theorem mulp_lt63 {a b : Nat} (ha : a < 4294967296) (hb : b < 4294967296) : mulp a b < 9223372036854775808 := mulK_lt63 ha (bl_le (by simpa using hb))

theorem dv_q_lt {b k : Nat} (hb : 0 < b) : ∀ (n q a : Nat), a ≤ n → q < 2 ^ k → (bl b ≤ bl a → bl a - bl b < k) → (dv b q a).1 < 2 ^ k
  | n, q, a, hn, hq, hk => by
    by_cases h : bl b ≤ bl a
    · rw [dv_go hb h]
      have h1 := dv_less ⟨hb, h⟩
      have h2 : q ||| 2 ^ (bl a - bl b) < 2 ^ k := Nat.or_lt_two_pow hq (Nat.pow_lt_pow_right (by decide) (hk h))
      have h3 : bl (a ^^^ (b * 2 ^ (bl a - bl b))) ≤ bl a := bl_le (Nat.lt_trans h1 (bl_lt a))
      have h4 := hk h
      match n with
      | 0 => omega
      | n + 1 => exact dv_q_lt hb n _ _ (by omega) h2 (fun _ => by omega)
    · rw [dv_end (by omega)]; exact hq
theorem dv_q_less {f p : Nat} (hf : 2 ≤ f) (hp : 1 ≤ p) : (dv f 0 p).1 < p := by
  have l2 : 2 ≤ bl f := bl_gt (k := 1) (by simpa using hf)
  have l1 := bl_pos (n := p) (by omega)
  have h := dv_q_lt (b := f) (k := bl p - 1) (by omega) p 0 p (Nat.le_refl _) (Nat.pow_pos (by decide)) (fun _ => by omega)
  have := bl_ge (n := p) (by omega)
  omega
theorem dv_self {p : Nat} (h : 0 < p) : dv p 0 p = (1, 0) := by
  have l1 := bl_pos (n := p) (by omega)
  rw [dv_go h (Nat.le_refl _), Nat.sub_self, Nat.pow_zero, Nat.mul_one, Nat.xor_self, dv_end (by rw [bl_zero]; omega)]
  rfl
theorem dv_q_pos {f p : Nat} (hf : 0 < f) (hp : 0 < p) (h : (dv f 0 p).2 = 0) : 1 ≤ (dv f 0 p).1 := by
  have key : ∀ (n q a : Nat), a ≤ n → 0 < q → 0 < (dv f q a).1 := by
    intro n
    induction n with
    | zero =>
      intro q a ha hq
      have e : a = 0 := by omega
      subst e
      rw [dv_end (by have := bl_pos (n := f) (by omega); rw [bl_zero]; omega)]; exact hq
    | succ n ih =>
      intro q a ha hq
      by_cases hb : bl f ≤ bl a
      · rw [dv_go hf hb]
        have h1 := dv_less ⟨hf, hb⟩
        refine ih _ _ (by omega) (Nat.lt_of_lt_of_le hq Nat.left_le_or)
      · rw [dv_end (by omega)]; exact hq
  by_cases hb : bl f ≤ bl p
  · rw [dv_go hf hb]
    refine key _ _ _ (Nat.le_refl _) (Nat.lt_of_lt_of_le (Nat.pow_pos (by decide)) Nat.right_le_or)
  · rw [dv_end (by omega)] at h
    simp only at h
    omega
theorem fc_less {f p : Nat} (h1 : ¬ p ≤ 1) (h2 : ¬ bl p + 1 < 2 * bl f) : 2 ^ bl p - (f + 1) < 2 ^ bl p - f := by
  have l := bl_lt f
  have h3 : 2 ^ bl f ≤ 2 ^ bl p := Nat.pow_le_pow_right (by decide) (by have := bl_pos (n := p) (by omega); omega)
  omega
/-- The factors that are found from f on. -/
def fc (f p : Nat) : List Nat :=
  if h1 : p ≤ 1 then []
  else if h2 : bl p + 1 < 2 * bl f then [p]
  else if h3 : f < 2 then []
  else if (dv f 0 p).2 = 0 then f :: fc f (dv f 0 p).1
  else fc (f + 1) p
termination_by (p, 2 ^ bl p - f)
decreasing_by
  · exact Prod.Lex.left _ _ (dv_q_less (by omega) (by omega))
  · exact Prod.Lex.right _ (fc_less h1 h2)
theorem fc_end {f p : Nat} (h : p ≤ 1) : fc f p = [] := by rw [fc, dif_pos h]
theorem fc_last {f p : Nat} (h1 : ¬ p ≤ 1) (h : bl p + 1 < 2 * bl f) : fc f p = [p] := by rw [fc, dif_neg h1, dif_pos h]
theorem fc_yes {f p : Nat} (h1 : ¬ p ≤ 1) (h2 : ¬ bl p + 1 < 2 * bl f) (h3 : 2 ≤ f) (h : (dv f 0 p).2 = 0) : fc f p = f :: fc f (dv f 0 p).1 := by
  rw [fc, dif_neg h1, dif_neg h2, dif_neg (by omega), if_pos h]
theorem fc_no {f p : Nat} (h1 : ¬ p ≤ 1) (h2 : ¬ bl p + 1 < 2 * bl f) (h3 : 2 ≤ f) (h : ¬ (dv f 0 p).2 = 0) : fc f p = fc (f + 1) p := by
  rw [fc, dif_neg h1, dif_neg h2, dif_neg (by omega), if_neg h]
end Go.Proofs.Ytkepnjdomlfpdaa
