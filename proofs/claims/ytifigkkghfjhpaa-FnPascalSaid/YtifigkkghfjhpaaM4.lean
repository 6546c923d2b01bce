/-
  Binomial numbers by Pascal's rule: the ratio of neighbours, the mirror, and bounds. Plain numbers, no program.
-/
import Derived.Test.YtifigkkghfjhpaaKit
namespace Go.Proofs.Ytifigkkghfjhpaa
set_option linter.unusedVariables false

def bin : Nat → Nat → Nat
  | _, 0 => 1
  | 0, _ + 1 => 0
  | n + 1, k + 1 => bin n k + bin n (k + 1)
theorem bin_zero (n : Nat) : bin n 0 = 1 := by cases n <;> rfl
theorem bin_ss (n k : Nat) : bin (n + 1) (k + 1) = bin n k + bin n (k + 1) := rfl
theorem bin_more : ∀ n k, n < k → bin n k = 0
  | 0, 0, h => by omega
  | 0, _ + 1, _ => rfl
  | n + 1, 0, h => by omega
  | n + 1, k + 1, h => by rw [bin_ss, bin_more n k (by omega), bin_more n (k + 1) (by omega)]
theorem bin_self : ∀ n, bin n n = 1
  | 0 => rfl
  | n + 1 => by rw [bin_ss, bin_self n, bin_more n (n + 1) (by omega)]
theorem bin_ratio : ∀ n k, (k + 1) * bin n (k + 1) + k * bin n k = n * bin n k
  | 0, 0 => rfl
  | 0, k + 1 => by simp [bin]
  | n + 1, 0 => by
    have h := bin_ratio n 0
    rw [bin_ss, bin_zero, bin_zero] at *
    omega
  | n + 1, k + 1 => by
    have h1 := bin_ratio n k
    have h2 := bin_ratio n (k + 1)
    rw [bin_ss, bin_ss]
    grind
theorem bin_mirror : ∀ a b, bin (a + b) a = bin (a + b) b
  | 0, b => by rw [Nat.zero_add, bin_zero, bin_self]
  | a + 1, 0 => by rw [Nat.add_zero, bin_zero, bin_self]
  | a + 1, b + 1 => by
    have h1 := bin_mirror a (b + 1)
    have h2 := bin_mirror (a + 1) b
    have e : a + 1 + (b + 1) = (a + b + 1) + 1 := by omega
    have e1 : a + (b + 1) = a + b + 1 := by omega
    have e2 : a + 1 + b = a + b + 1 := by omega
    rw [e1] at h1
    rw [e2] at h2
    rw [e, bin_ss (a + b + 1) a, bin_ss (a + b + 1) b]
    omega
theorem bin_pair : ∀ n k, bin n k + bin n (k + 1) ≤ 2 ^ n
  | 0, 0 => by simp [bin]
  | 0, k + 1 => by simp [bin]
  | n + 1, 0 => by
    have h := bin_pair n 0
    have h0 := Nat.one_le_two_pow (n := n)
    have h3 := bin_zero n
    have h4 := bin_zero (n + 1)
    have h5 := bin_ss n 0
    rw [Nat.pow_succ]
    omega
  | n + 1, k + 1 => by
    have h1 := bin_pair n k
    have h2 := bin_pair n (k + 1)
    rw [bin_ss, bin_ss, Nat.pow_succ]
    omega
theorem bin_le (n k : Nat) : bin n k ≤ 2 ^ n := by have := bin_pair n k; omega
theorem bin_le60 {n : Nat} (k : Nat) (h : n ≤ 60) : bin n k ≤ 1152921504606846976 := by
  have h1 := bin_le n k
  have h2 : 2 ^ n ≤ 2 ^ 60 := Nat.pow_le_pow_right (by decide) h
  have h3 : (2 : Nat) ^ 60 = 1152921504606846976 := by decide
  omega
theorem bin_half {n k : Nat} (h : n ≤ 59) : bin (n + 1) (k + 1) ≤ 576460752303423488 := by
  have h1 := bin_pair n k
  have h2 : 2 ^ n ≤ 2 ^ 59 := Nat.pow_le_pow_right (by decide) h
  have h3 : (2 : Nat) ^ 59 = 576460752303423488 := by decide
  rw [bin_ss]
  omega
/-- A step of the product from the left. -/
theorem bin_step {n i : Nat} (h : i < n) (hn : n ≤ 60) (hi : 2 * (i + 1) ≤ n) : bin n i * (n - i) = (i + 1) * bin n (i + 1) ∧ bin n i * (n - i) < 18446744073709551616 ∧ bin n i * (n - i) / (i + 1) = bin n (i + 1) := by
  have h1 := bin_ratio n i
  have e : bin n i * (n - i) = (i + 1) * bin n (i + 1) := by
    rw [Nat.mul_sub, Nat.mul_comm _ n, Nat.mul_comm _ i]
    omega
  obtain ⟨m, rfl⟩ : ∃ m, n = m + 1 := ⟨n - 1, by omega⟩
  have h2 := bin_half (n := m) (k := i) (by omega)
  have h3 : (i + 1) * bin (m + 1) (i + 1) ≤ 30 * 576460752303423488 := Nat.mul_le_mul (by omega) h2
  refine ⟨e, by omega, ?_⟩
  rw [e, Nat.mul_div_cancel_left _ (by omega)]
/-- The first j numbers of a row of Pascal's. -/
def prk (n j : Nat) : List Int := (List.range j).map fun t => (bin n t : Int)
theorem prk_len (n j : Nat) : (prk n j).length = j := by simp [prk]
theorem prk_succ (n j : Nat) : prk n (j + 1) = prk n j ++ [(bin n j : Int)] := by simp [prk, List.range_succ]
theorem prk_one (n : Nat) : prk n 1 = [1] := by simp [prk, bin_zero]
theorem prk_get (n : Nat) {j t : Nat} (h : t < j) : (prk n j).getD t 0 = bin n t := by simp [prk, List.getD, h]
end Go.Proofs.Ytifigkkghfjhpaa
