/-
  Polynomials over two elements, as numbers: bit lengths, product, division, greatest common divisor. Plain numbers, no program.
-/
import Derived.Test.YtdnikkmioighkaaDoorKit
namespace Go.Proofs.YtdnikkmioighkaaDoor
set_option linter.unusedVariables false

def bl (n : Nat) : Nat := if n = 0 then 0 else n.log2 + 1
theorem bl_zero : bl 0 = 0 := rfl
theorem bl_lt (n : Nat) : n < 2 ^ bl n := by
  unfold bl
  split
  · next h => subst h; decide
  · exact Nat.lt_log2_self
theorem bl_ge {n : Nat} (h : n ≠ 0) : 2 ^ (bl n - 1) ≤ n := by
  unfold bl
  rw [if_neg h, Nat.add_sub_cancel]
  exact Nat.log2_self_le h
theorem bl_pos {n : Nat} (h : n ≠ 0) : 1 ≤ bl n := by unfold bl; rw [if_neg h]; omega
theorem bl_le {n k : Nat} (h : n < 2 ^ k) : bl n ≤ k := by
  rcases Nat.eq_zero_or_pos n with h0 | h0
  · subst h0; exact Nat.zero_le _
  · have h1 := bl_ge (n := n) (by omega)
    have h2 : 2 ^ (bl n - 1) < 2 ^ k := by omega
    have := (Nat.pow_lt_pow_iff_right (a := 2) (by decide)).1 h2
    omega
theorem bl_gt {n k : Nat} (h : 2 ^ k ≤ n) : k < bl n := by
  have h1 := bl_lt n
  have h2 : 2 ^ k < 2 ^ bl n := by omega
  exact (Nat.pow_lt_pow_iff_right (a := 2) (by decide)).1 h2
theorem bl_eq {n k : Nat} (h1 : 2 ^ k ≤ n) (h2 : n < 2 ^ (k + 1)) : bl n = k + 1 := by
  have := bl_gt h1
  have := bl_le h2
  omega
theorem bl_eq' {n k : Nat} (h0 : 1 ≤ k) (h1 : 2 ^ (k - 1) ≤ n) (h2 : n < 2 ^ k) : bl n = k := by
  have e : k = (k - 1) + 1 := by omega
  rw [e] at h2
  have := bl_eq h1 h2
  omega
theorem bl_half {n : Nat} (h : n ≠ 0) : bl n = bl (n / 2) + 1 := by
  have h1 := bl_lt n
  have h2 := bl_ge h
  have h3 := bl_pos h
  obtain ⟨k, hk⟩ : ∃ k, bl n = k + 1 := ⟨bl n - 1, by omega⟩
  rw [hk] at h1 h2 ⊢
  rw [Nat.add_sub_cancel] at h2
  rcases Nat.eq_zero_or_pos k with h0 | h0
  · subst h0
    have e : n / 2 = 0 := by omega
    rw [e, bl_zero]
  · have e2 : 2 ^ k = 2 ^ (k - 1) * 2 := by rw [← Nat.pow_succ]; congr 1; omega
    have e3 : 2 ^ (k + 1) = 2 ^ k * 2 := Nat.pow_succ 2 k
    rw [bl_eq' h0 (n := n / 2) (by omega) (by omega)]
theorem bl_mul {n s : Nat} (h : n ≠ 0) : bl (n * 2 ^ s) = bl n + s := by
  have h1 := bl_lt n
  have h2 := bl_ge h
  have h3 := bl_pos h
  have hp : 0 < 2 ^ s := Nat.pow_pos (by decide)
  refine bl_eq' (by omega) ?_ ?_
  · have e : bl n + s - 1 = (bl n - 1) + s := by omega
    rw [e, Nat.pow_add]
    exact Nat.mul_le_mul_right _ h2
  · rw [Nat.pow_add]
    exact Nat.mul_lt_mul_of_pos_right h1 hp
theorem top_bit {a m : Nat} (h1 : 2 ^ m ≤ a) (h2 : a < 2 ^ (m + 1)) : a.testBit m = true := by
  rw [Nat.testBit_eq_decide_div_mod_eq]
  have e : a / 2 ^ m = 1 := by
    have hp : 0 < 2 ^ m := Nat.pow_pos (by decide)
    have h3 : 1 ≤ a / 2 ^ m := (Nat.le_div_iff_mul_le hp).2 (by omega)
    have h4 : a / 2 ^ m < 2 := (Nat.div_lt_iff_lt_mul hp).2 (by rw [Nat.pow_succ] at h2; omega)
    omega
  rw [e]; rfl
/-- Two numbers of one bit length: their sum is shorter. -/
theorem xor_short {a c : Nat} (h : bl a = bl c) (ha : a ≠ 0) : a ^^^ c < 2 ^ (bl a - 1) := by
  have hp := bl_pos ha
  have hc : c ≠ 0 := by intro e; subst e; rw [bl_zero] at h; omega
  obtain ⟨m, hm⟩ : ∃ m, bl a = m + 1 := ⟨bl a - 1, by omega⟩
  have a1 := bl_ge ha
  have a2 := bl_lt a
  have c1 := bl_ge hc
  have c2 := bl_lt c
  rw [← h] at c1 c2
  rw [hm] at a1 a2 c1 c2 ⊢
  rw [Nat.add_sub_cancel] at a1 c1 ⊢
  refine Nat.lt_pow_two_of_testBit _ fun i hi => ?_
  rw [Nat.testBit_xor]
  by_cases e : i = m
  · subst e
    rw [top_bit a1 a2, top_bit c1 c2]; rfl
  · have l1 : 2 ^ (m + 1) ≤ 2 ^ i := Nat.pow_le_pow_right (by decide) (by omega)
    rw [Nat.testBit_lt_two_pow (show a < 2 ^ i by omega), Nat.testBit_lt_two_pow (show c < 2 ^ i by omega)]; rfl
theorem xor_less {a c : Nat} (h : bl a = bl c) (ha : a ≠ 0) : a ^^^ c < a := Nat.lt_of_lt_of_le (xor_short h ha) (bl_ge ha)

/-- A step of the division: the divisor, shifted below the top of a. -/
theorem dv_less {a b : Nat} (h : 0 < b ∧ bl b ≤ bl a) : a ^^^ (b * 2 ^ (bl a - bl b)) < a := by
  have hb := bl_pos (n := b) (by omega)
  have ha : a ≠ 0 := by intro e; subst e; rw [bl_zero] at h; omega
  refine xor_less ?_ ha
  rw [bl_mul (by omega)]
  omega
/-- Quotient and remainder. -/
def dv (b q a : Nat) : Nat × Nat := if h : 0 < b ∧ bl b ≤ bl a then dv b (q ||| 2 ^ (bl a - bl b)) (a ^^^ (b * 2 ^ (bl a - bl b))) else (q, a)
termination_by a
decreasing_by exact dv_less h
theorem dv_go {b q a : Nat} (h0 : 0 < b) (h : bl b ≤ bl a) : dv b q a = dv b (q ||| 2 ^ (bl a - bl b)) (a ^^^ (b * 2 ^ (bl a - bl b))) := by
  rw [dv, dif_pos ⟨h0, h⟩]
theorem dv_end {b q a : Nat} (h : bl a < bl b) : dv b q a = (q, a) := by
  rw [dv, dif_neg (by omega)]
/-- A step of the division keeps the bounds. -/
theorem dv_keeps {a b q n : Nat} (hb : 0 < b) (h : bl b ≤ bl a) (ha : a < 2 ^ n) (hq : q < 2 ^ n) :
    b * 2 ^ (bl a - bl b) < 2 ^ n ∧ (a ^^^ (b * 2 ^ (bl a - bl b))) < 2 ^ n ∧ q ||| 2 ^ (bl a - bl b) < 2 ^ n ∧ bl a - bl b < n := by
  have l := bl_le ha
  have pb := bl_pos (n := b) (by omega)
  have h1 : b * 2 ^ (bl a - bl b) < 2 ^ n := by
    have := bl_lt (b * 2 ^ (bl a - bl b))
    rw [bl_mul (by omega)] at this
    have h2 : 2 ^ (bl b + (bl a - bl b)) ≤ 2 ^ n := Nat.pow_le_pow_right (by decide) (by omega)
    omega
  refine ⟨h1, Nat.xor_lt_two_pow ha h1, Nat.or_lt_two_pow hq ?_, by omega⟩
  exact Nat.pow_lt_pow_right (by decide) (by omega)
theorem dv_rest {b : Nat} (hb : 0 < b) : ∀ (n q a : Nat), a ≤ n → bl (dv b q a).2 < bl b
  | n, q, a, hn => by
    by_cases h : bl b ≤ bl a
    · rw [dv_go hb h]
      have := dv_less ⟨hb, h⟩
      match n with
      | 0 => omega
      | n + 1 => exact dv_rest hb n _ _ (by omega)
    · rw [dv_end (by omega)]; simp only; omega
theorem dv_rest_lt {b a : Nat} (q : Nat) (hb : 0 < b) : (dv b q a).2 < b := by
  have h1 := dv_rest hb a q a (Nat.le_refl _)
  have h2 := bl_lt (dv b q a).2
  have h3 := bl_ge (n := b) (by omega)
  have h4 : 2 ^ bl (dv b q a).2 ≤ 2 ^ (bl b - 1) := Nat.pow_le_pow_right (by decide) (by omega)
  omega
theorem dv_quot_lt {b : Nat} (hb : 0 < b) {k : Nat} : ∀ (n q a : Nat), a ≤ n → a < 2 ^ k → q < 2 ^ k → (dv b q a).1 < 2 ^ k
  | n, q, a, hn, ha, hq => by
    by_cases h : bl b ≤ bl a
    · rw [dv_go hb h]
      have h1 := dv_less ⟨hb, h⟩
      have h2 := dv_keeps hb h ha hq
      match n with
      | 0 => omega
      | n + 1 => exact dv_quot_lt hb n _ _ (by omega) h2.2.1 h2.2.2.1
    · rw [dv_end (by omega)]; exact hq
def gcp (a b : Nat) : Nat := if h : 0 < b then gcp b (dv b 0 a).2 else a
termination_by b
decreasing_by exact dv_rest_lt 0 h
theorem gcp_go {a b : Nat} (h : 0 < b) : gcp a b = gcp b (dv b 0 a).2 := by rw [gcp, dif_pos h]
theorem gcp_end (a : Nat) : gcp a 0 = a := by rw [gcp, dif_neg (by omega)]
/-- The sum of shifted a's at the first k bits of b. -/
def mulK (a b : Nat) : Nat → Nat
  | 0 => 0
  | k + 1 => if b / 2 ^ k % 2 = 1 then mulK a b k ^^^ (a * 2 ^ k) else mulK a b k
theorem mulK_yes {a b k : Nat} (h : b / 2 ^ k % 2 = 1) : mulK a b (k + 1) = mulK a b k ^^^ (a * 2 ^ k) := by rw [mulK, if_pos h]
theorem mulK_no {a b k : Nat} (h : ¬ b / 2 ^ k % 2 = 1) : mulK a b (k + 1) = mulK a b k := by rw [mulK, if_neg h]
theorem mulK_more {a b k : Nat} (h : b < 2 ^ k) : ∀ n, mulK a b (k + n) = mulK a b k
  | 0 => rfl
  | n + 1 => by
    have h1 : 2 ^ k ≤ 2 ^ (k + n) := Nat.pow_le_pow_right (by decide) (by omega)
    have e : b / 2 ^ (k + n) = 0 := Nat.div_eq_of_lt (by omega)
    rw [← Nat.add_assoc, mulK_no (by rw [e]; decide), mulK_more h n]
theorem mulK_lt {a b n : Nat} (ha : a < 2 ^ n) : ∀ k, mulK a b k < 2 ^ (n + k)
  | 0 => by simp only [mulK]; exact Nat.pow_pos (by decide)
  | k + 1 => by
    have h1 := mulK_lt ha (b := b) k
    have h2 : 2 ^ (n + k) ≤ 2 ^ (n + (k + 1)) := Nat.pow_le_pow_right (by decide) (by omega)
    by_cases h : b / 2 ^ k % 2 = 1
    · rw [mulK_yes h]
      refine Nat.xor_lt_two_pow (by omega) ?_
      have : a * 2 ^ k < 2 ^ n * 2 ^ k := Nat.mul_lt_mul_of_pos_right ha (Nat.pow_pos (by decide))
      rw [← Nat.pow_add] at this
      omega
    · rw [mulK_no h]; omega
theorem mulK_lt' {a b n : Nat} (hn : 1 ≤ n) (ha : a < 2 ^ n) : ∀ k, mulK a b k < 2 ^ (n + k - 1)
  | 0 => by simp only [mulK]; exact Nat.pow_pos (by decide)
  | k + 1 => by
    have h1 := mulK_lt' hn ha (b := b) k
    have h2 : 2 ^ (n + k - 1) ≤ 2 ^ (n + (k + 1) - 1) := Nat.pow_le_pow_right (by decide) (by omega)
    by_cases h : b / 2 ^ k % 2 = 1
    · rw [mulK_yes h]
      refine Nat.xor_lt_two_pow (by omega) ?_
      have : a * 2 ^ k < 2 ^ n * 2 ^ k := Nat.mul_lt_mul_of_pos_right ha (Nat.pow_pos (by decide))
      rw [← Nat.pow_add] at this
      have e : n + (k + 1) - 1 = n + k := by omega
      rw [e]; exact this
    · rw [mulK_no h]; omega
theorem mulK_lt63 {a b : Nat} (ha : a < 4294967296) {k : Nat} (hk : k ≤ 32) : mulK a b k < 9223372036854775808 := by
  have h := mulK_lt' (n := 32) (by decide) (by simpa using ha) (b := b) k
  have h2 : 2 ^ (32 + k - 1) ≤ 2 ^ 63 := Nat.pow_le_pow_right (by decide) (by omega)
  have h3 : (2 : Nat) ^ 63 = 9223372036854775808 := by decide
  omega
theorem mul_step_lt {a k : Nat} (ha : a < 4294967296) (hk : k < 32) : a * 2 ^ k < 9223372036854775808 := by
  have h1 : 2 ^ k ≤ 2 ^ 31 := Nat.pow_le_pow_right (by decide) (by omega)
  have h2 : a * 2 ^ k ≤ 4294967295 * 2 ^ 31 := Nat.mul_le_mul (by omega) h1
  have h3 : 4294967295 * 2 ^ 31 < 9223372036854775808 := by decide
  omega
/-- The product. -/
def mulp (a b : Nat) : Nat := mulK a b (bl b)
theorem mulp_eq {a b k : Nat} (h : bl b ≤ k) : mulK a b k = mulp a b := by
  have := mulK_more (a := a) (bl_lt b) (k - bl b)
  rw [Nat.add_sub_cancel' h] at this
  exact this
end Go.Proofs.YtdnikkmioighkaaDoor
