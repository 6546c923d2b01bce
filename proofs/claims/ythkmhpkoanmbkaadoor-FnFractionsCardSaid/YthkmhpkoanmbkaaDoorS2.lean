/-
  Contracts of the reference's long division and of its sums, products and comparison of fractions. Conditions stand in each contract.
-/
import Derived.Test.YthkmhpkoanmbkaaDoorS1
import Derived.Test.YthkmhpkoanmbkaaDoorM16
namespace Go.Proofs.YthkmhpkoanmbkaaDoor
open Go.RowKit
set_option linter.unusedVariables false

theorem split_step {a d : Int} {k : Nat} {q r b : Int} (d0 : 1 ≤ d) (hq : a / 2 ^ (k + 1) / d = q) (hr : a / 2 ^ (k + 1) % d = r) (hb : a / 2 ^ k % 2 = b) : (d ≤ 2 * r + b → a / 2 ^ k / d = 2 * q + 1 ∧ a / 2 ^ k % d = 2 * r + b - d) ∧ (2 * r + b < d → a / 2 ^ k / d = 2 * q ∧ a / 2 ^ k % d = 2 * r + b) := by
  have e : a / 2 ^ (k + 1) = a / 2 ^ k / 2 := by rw [Int.ediv_ediv_of_nonneg (by exact Int.le_of_lt (Int.pow_pos (by decide))), Int.pow_succ]
  rw [e] at hq hr
  generalize a / 2 ^ k = P at *
  have h1 := Int.mul_ediv_add_emod (P / 2) d
  rw [hq, hr] at h1
  have h2 : P = 2 * (P / 2) + b := by omega
  have b0 : 0 ≤ r := by rw [← hr]; exact Int.emod_nonneg _ (by omega)
  have b1 : r < d := by rw [← hr]; exact Int.emod_lt_of_pos _ (by omega)
  constructor
  · intro h
    exact divmod_of (by rw [h2, ← h1]; grind) (by omega) (by omega)
  · intro h
    exact divmod_of (by rw [h2, ← h1]; grind) (by omega) (by omega)
theorem u64_or_two {c x : Int} (c0 : 0 ≤ c) (c1 : c < 2) (x0 : 0 ≤ x) (h : x < 9223372036854775808) : bits .or .u64 (x * 2) c = x * 2 + c := by
  obtain ⟨C, rfl⟩ := Int.eq_ofNat_of_zero_le c0
  obtain ⟨X, rfl⟩ := Int.eq_ofNat_of_zero_le x0
  have e : ((X : Int) * 2) = ((2 ^ 1 * X : Nat) : Int) := by omega
  rw [e, u64_or_nat _ _ (by omega) (by omega), ← Nat.two_pow_add_eq_or_of_lt (by omega)]
  omega
theorem u64_and_one {c : Int} (c0 : 0 ≤ c) (c1 : c < 18446744073709551616) : bits .and .u64 c 1 = c % 2 := by
  have := u64_mask (c := c) 1 c0 c1 (by omega)
  simpa using this
theorem bit_high {a ah al : Int} {k : Nat} (e : a = ah * 18446744073709551616 + al) (l0 : 0 ≤ al) (l1 : al < 18446744073709551616) (hk : 64 ≤ k) : ah / 2 ^ (k - 64) = a / 2 ^ k := by
  obtain ⟨j, rfl⟩ : ∃ j, k = 64 + j := ⟨k - 64, by omega⟩
  rw [Nat.add_sub_cancel_left, Int.pow_add, ← Int.ediv_ediv_of_nonneg (by decide)]
  congr 1
  have : (2 : Int) ^ 64 = 18446744073709551616 := by decide
  rw [this]
  omega
theorem bit_low {a ah al : Int} {k : Nat} (e : a = ah * 18446744073709551616 + al) (hk : ¬ 64 ≤ k) : al / 2 ^ (k % 64) % 2 = a / 2 ^ k % 2 := by
  rw [Nat.mod_eq_of_lt (by omega)]
  have h : (18446744073709551616 : Int) = 2 ^ (63 - k) * 2 * 2 ^ k := by
    rw [Int.mul_assoc, Int.mul_comm 2, ← Int.pow_succ, ← Int.pow_add, show 63 - k + (k + 1) = 64 by omega]; decide
  have p : (0 : Int) < 2 ^ k := Int.pow_pos (by decide)
  rw [e, h, show ah * (2 ^ (63 - k) * 2 * 2 ^ k) + al = al + ah * (2 ^ (63 - k) * 2) * 2 ^ k by grind, Int.add_mul_ediv_right _ _ (by omega), show ah * (2 ^ (63 - k) * 2) = ah * 2 ^ (63 - k) * 2 by grind, Int.add_mul_emod_self_right]
end Go.Proofs.YthkmhpkoanmbkaaDoor
