/-
  The reference's way to the least bits with all words of a width. Plain, no program.
-/
import Derived.Test.YtdnikkmioighkaaDoorM25
namespace Go.Proofs.YtdnikkmioighkaaDoor
open Go.RowKit
set_option linter.unusedVariables false

def leB (a b : List UInt8) : Bool := Op.bytesLess a b || a == b
def lynB (s : List UInt8) : Bool := (List.range s.length).all fun i => i == 0 || !(leB (s.drop i) s)
/-- The first k of so many digits of n. -/
def dgK (n size : Nat) : Nat → List UInt8
  | 0 => []
  | k + 1 => dgK n size k ++ [UInt8.ofNat (48 + n / 2 ^ (size - 1 - k) % 2)]
theorem dgK_len (n size : Nat) : ∀ k, (dgK n size k).length = k
  | 0 => rfl
  | k + 1 => by rw [dgK, List.length_append, dgK_len n size k]; rfl
def spN (size : Nat) : Nat → List (List UInt8)
  | 0 => []
  | n + 1 => if lynB (dgK n size size) = true then spN size n ++ [dgK n size size] else spN size n
def spS (W : Nat) : Nat → List (List UInt8)
  | 0 => []
  | z + 1 => if W % (z + 1) = 0 then spS W z ++ spN (z + 1) (2 ^ (z + 1)) else spS W z
/-- The least one's index among the first k + 1. -/
def mI (l : List (List UInt8)) : Nat → Nat
  | 0 => 0
  | k + 1 => if Op.bytesLess (l.getD (k + 1) []) (l.getD (mI l k) []) = true then k + 1 else mI l k
theorem mI_le (l : List (List UInt8)) : ∀ k, mI l k ≤ k
  | 0 => Nat.le_refl _
  | k + 1 => by have := mI_le l k; rw [mI]; split <;> omega
/-- One picked out. -/
def lst1 (l : List (List UInt8)) : List (List UInt8) := l.take (mI l (l.length - 1)) ++ l.drop (mI l (l.length - 1) + 1)
def pick1 (l : List (List UInt8)) : List UInt8 := l.getD (mI l (l.length - 1)) []
def selO : Nat → List (List UInt8) → List UInt8 → List UInt8
  | 0, _, out => out
  | f + 1, l, out => if l = [] then out else selO f (lst1 l) (out ++ pick1 l)
theorem lst1_len {l : List (List UInt8)} (h : l ≠ []) : (lst1 l).length + 1 = l.length := by
  have h1 := List.length_pos_iff.2 h
  have h2 := mI_le l (l.length - 1)
  unfold lst1
  rw [List.length_append, List.length_take, List.length_drop]
  omega
theorem spN_len (size : Nat) : ∀ n, (spN size n).length ≤ n
  | 0 => by simp [spN]
  | n + 1 => by
    have := spN_len size n
    rw [spN]; split
    · rw [List.length_append]; simp; omega
    · omega
theorem spS_len (W : Nat) : ∀ z, z ≤ 6 → (spS W z).length ≤ 64 * z
  | 0, _ => by simp [spS]
  | z + 1, h => by
    have h1 := spS_len W z (by omega)
    have h2 := spN_len (z + 1) (2 ^ (z + 1))
    have h3 : 2 ^ (z + 1) ≤ 2 ^ 6 := Nat.pow_le_pow_right (by decide) h
    have h4 : (2 : Nat) ^ 6 = 64 := by decide
    rw [spS]; split
    · rw [List.length_append]; omega
    · omega
theorem same_LW : ∀ W, W < 7 → W = 0 ∨ ((selO 64 (spS W W) [] == LW W) && decide ((spS W W).length ≤ 64)) = true := by decide +kernel
theorem sel_same {W : Nat} (h1 : 1 ≤ W) (h6 : W ≤ 6) : selO 64 (spS W W) [] = LW W ∧ (spS W W).length ≤ 64 := by
  rcases same_LW W (by omega) with h | h
  · omega
  · obtain ⟨a, b⟩ := Bool.and_eq_true_iff.1 h
    exact ⟨by simpa using a, by simpa using b⟩
end Go.Proofs.YtdnikkmioighkaaDoor
