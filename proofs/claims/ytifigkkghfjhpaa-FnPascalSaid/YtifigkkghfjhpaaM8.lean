/-
  The sum of a row of Pascal's. Plain numbers, no program.
-/
import Derived.Test.YtifigkkghfjhpaaM4
namespace Go.Proofs.Ytifigkkghfjhpaa
set_option linter.unusedVariables false

def bsum (n : Nat) : Nat → Nat
  | 0 => 0
  | t + 1 => bsum n t + bin n t
theorem bsum_up (n : Nat) : ∀ t, bsum (n + 1) (t + 1) = bsum n (t + 1) + bsum n t
  | 0 => by simp [bsum, bin_zero]
  | t + 1 => by
    have h := bsum_up n t
    have h1 : bsum (n + 1) (t + 1 + 1) = bsum (n + 1) (t + 1) + bin (n + 1) (t + 1) := rfl
    have h2 : bsum n (t + 1 + 1) = bsum n (t + 1) + bin n (t + 1) := rfl
    have h3 : bsum n (t + 1) = bsum n t + bin n t := rfl
    rw [h1, h2, h, bin_ss]
    omega
theorem bsum_all : ∀ n, bsum n (n + 1) = 2 ^ n
  | 0 => rfl
  | n + 1 => by
    have h := bsum_all n
    have h1 : bsum n (n + 1 + 1) = bsum n (n + 1) + bin n (n + 1) := rfl
    rw [bsum_up, h1, h, bin_more n (n + 1) (by omega), Nat.pow_succ]
    omega
theorem bsum_le (n t : Nat) : ∀ k, bsum n t ≤ bsum n (t + k)
  | 0 => Nat.le_refl _
  | k + 1 => Nat.le_trans (bsum_le n t k) (Nat.le_add_right _ _)
theorem bsum_le60 {n t : Nat} (hn : n ≤ 60) (ht : t ≤ n + 1) : bsum n t ≤ 1152921504606846976 := by
  have h := bsum_le n t (n + 1 - t)
  rw [Nat.add_sub_cancel' ht, bsum_all] at h
  have h2 : 2 ^ n ≤ 2 ^ 60 := Nat.pow_le_pow_right (by decide) hn
  have h3 : (2 : Nat) ^ 60 = 1152921504606846976 := by decide
  omega
theorem bin_pos {n k : Nat} (h : k ≤ n) : 1 ≤ bin n k := by
  induction n generalizing k with
  | zero => have e : k = 0 := by omega
            subst e; decide
  | succ n ih =>
    cases k with
    | zero => rw [bin_zero]; omega
    | succ k => rw [bin_ss]; have := ih (k := k) (by omega); omega
end Go.Proofs.Ytifigkkghfjhpaa
