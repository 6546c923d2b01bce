/-
  Numbers of any size by their digits to the base 2^32, the least one first: plain laws. No Go program here.
-/
import Derived.Test.YthkmhpkoanmbkaaDoorOwn
namespace Go.Proofs.YthkmhpkoanmbkaaDoor
open Go.RowKit
set_option linter.unusedVariables false

/-- The base to the power of k. -/
def bp : Nat → Int
  | 0 => 1
  | k + 1 => 4294967296 * bp k
theorem bp_pos : ∀ k, 1 ≤ bp k
  | 0 => by simp [bp]
  | k + 1 => by have := bp_pos k; simp only [bp]; omega
theorem bp_add (j : Nat) : ∀ k, bp (j + k) = bp j * bp k
  | 0 => by simp [bp]
  | k + 1 => by
    have := bp_add j k
    rw [Nat.add_succ, bp, bp, this]
    rw [Int.mul_left_comm]
/-- The number of the first k digits. -/
def pk (xs : List Int) : Nat → Int
  | 0 => 0
  | k + 1 => pk xs k + xs.getD k 0 * bp k
/-- Digits. -/
def Dig (xs : List Int) : Prop := ∀ j, 0 ≤ xs.getD j 0 ∧ xs.getD j 0 ≤ 4294967295
def val (xs : List Int) : Int := pk xs xs.length
theorem Dig.nil : Dig [] := fun j => by simp
theorem pk_bd {xs : List Int} (h : Dig xs) : ∀ k, 0 ≤ pk xs k ∧ pk xs k < bp k
  | 0 => by simp [pk, bp]
  | k + 1 => by
    have h1 := pk_bd h k
    have h2 := h k
    have hp := bp_pos k
    simp only [pk, bp]
    generalize xs.getD k 0 = x at h2
    have h3 : 0 ≤ x * bp k := Int.mul_nonneg h2.1 (by omega)
    have h4 : x * bp k ≤ 4294967295 * bp k := Int.mul_le_mul_of_nonneg_right h2.2 (by omega)
    omega
theorem pk_more {xs : List Int} : ∀ d, pk xs (xs.length + d) = val xs
  | 0 => rfl
  | d + 1 => by
    have := pk_more (xs := xs) d
    rw [Nat.add_succ, pk, this]
    have : xs.getD (xs.length + d) 0 = 0 := by simp [List.getD]
    rw [this]; omega
theorem pk_ge {xs : List Int} {k : Nat} (h : xs.length ≤ k) : pk xs k = val xs := by
  obtain ⟨d, rfl⟩ : ∃ d, k = xs.length + d := ⟨k - xs.length, by omega⟩
  exact pk_more d
theorem pk_congr {xs ys : List Int} : ∀ k, (∀ j, j < k → xs.getD j 0 = ys.getD j 0) → pk xs k = pk ys k
  | 0, _ => rfl
  | k + 1, h => by rw [pk, pk, pk_congr k (fun j hj => h j (by omega)), h k (by omega)]
theorem getD_take (xs : List Int) (n j : Nat) (h : j < n) : (xs.take n).getD j 0 = xs.getD j 0 := by
  simp [List.getD, List.getElem?_take_of_lt h]
theorem getD_take_ge (xs : List Int) (n j : Nat) (h : n ≤ j) : (xs.take n).getD j 0 = 0 := by
  have : (xs.take n)[j]? = none := List.getElem?_eq_none (by rw [List.length_take]; omega)
  simp [List.getD, this]
theorem Dig.take {xs : List Int} (h : Dig xs) (n : Nat) : Dig (xs.take n) := fun j => by
  by_cases hj : j < n
  · rw [getD_take xs n j hj]; exact h j
  · rw [getD_take_ge xs n j (by omega)]; omega
theorem val_take {xs : List Int} {n : Nat} (hn : n ≤ xs.length) : val (xs.take n) = pk xs n := by
  unfold val
  rw [List.length_take, Nat.min_eq_left hn]
  exact pk_congr n fun j hj => getD_take xs n j hj
theorem val_nonneg {xs : List Int} (h : Dig xs) : 0 ≤ val xs := (pk_bd h _).1
theorem val_lt {xs : List Int} (h : Dig xs) : val xs < bp xs.length := (pk_bd h _).2
theorem getD_set (xs : List Int) (i j : Nat) (z : Int) (hi : i < xs.length) : (xs.set i z).getD j 0 = if j = i then z else xs.getD j 0 := by
  by_cases e : j = i
  · subst e; simp [List.getD, hi]
  · simp [List.getD, List.getElem?_set_ne (Ne.symm e), e]
theorem Dig.set {xs : List Int} (h : Dig xs) (i : Nat) {z : Int} (h0 : 0 ≤ z) (h1 : z ≤ 4294967295) : Dig (xs.set i z) := fun j => by
  by_cases hi : i < xs.length
  · rw [getD_set xs i j z hi]
    split
    · exact ⟨h0, h1⟩
    · exact h j
  · rw [List.set_eq_of_length_le (by omega)]; exact h j
theorem pk_set (xs : List Int) (i : Nat) (z : Int) (hi : i < xs.length) : ∀ k, k ≤ i → pk (xs.set i z) k = pk xs k := fun k hk =>
  pk_congr k fun j hj => by rw [getD_set xs i j z hi, if_neg (by omega)]
theorem pk_set_succ (xs : List Int) (i : Nat) (z : Int) (hi : i < xs.length) : pk (xs.set i z) (i + 1) = pk xs i + z * bp i := by
  rw [pk, pk_set xs i z hi i (Nat.le_refl _), getD_set xs i i z hi, if_pos rfl]
theorem pk_zero {n : Nat} : ∀ k, pk (List.replicate n 0) k = 0
  | 0 => rfl
  | k + 1 => by
    rw [pk, pk_zero k]
    have : (List.replicate n (0 : Int)).getD k 0 = 0 := by
      simp only [List.getD, List.getElem?_replicate]
      split <;> rfl
    rw [this]; simp
theorem dig_zero (n : Nat) : Dig (List.replicate n 0) := fun j => by
  have : (List.replicate n (0 : Int)).getD j 0 = 0 := by
    simp only [List.getD, List.getElem?_replicate]
    split <;> rfl
  rw [this]; omega
/-- No zeros at the end. -/
def Norm (xs : List Int) : Prop := xs.length = 0 ∨ xs.getD (xs.length - 1) 0 ≠ 0
theorem norm_low {xs : List Int} (h : Dig xs) (hn : Norm xs) (h0 : xs.length ≠ 0) : bp (xs.length - 1) ≤ val xs := by
  obtain ⟨k, hk⟩ : ∃ k, xs.length = k + 1 := ⟨xs.length - 1, by omega⟩
  rcases hn with hn | hn
  · omega
  · unfold val
    rw [hk, Nat.add_sub_cancel] at *
    rw [pk]
    have h1 := (pk_bd h k).1
    have h2 := h k
    have hp := bp_pos k
    generalize xs.getD k 0 = x at hn h2
    have : bp k ≤ x * bp k := by
      have : 1 * bp k ≤ x * bp k := Int.mul_le_mul_of_nonneg_right (by omega) (by omega)
      omega
    omega
theorem bp_mono {j k : Nat} (h : j ≤ k) : bp j ≤ bp k := by
  obtain ⟨d, rfl⟩ : ∃ d, k = j + d := ⟨k - j, by omega⟩
  rw [bp_add]
  have h1 := bp_pos j
  have h2 := bp_pos d
  have : bp j * 1 ≤ bp j * bp d := Int.mul_le_mul_of_nonneg_left h2 (by omega)
  omega
theorem norm_len {xs ys : List Int} (hx : Dig xs) (hy : Dig ys) (nx : Norm xs) (ny : Norm ys) (h : val xs ≤ val ys) : xs.length ≤ ys.length := by
  by_cases h0 : xs.length = 0
  · omega
  · have h1 := norm_low hx nx h0
    have h2 := val_lt hy
    by_cases hh : xs.length ≤ ys.length
    · exact hh
    · have := bp_mono (show ys.length ≤ xs.length - 1 by omega)
      omega
/-- Where they differ from above decides. -/
theorem pk_order {xs ys : List Int} (hx : Dig xs) (hy : Dig ys) (k : Nat) (hlt : xs.getD k 0 < ys.getD k 0) : ∀ d, (∀ j, k < j → j < k + 1 + d → xs.getD j 0 = ys.getD j 0) → pk xs (k + 1 + d) < pk ys (k + 1 + d)
  | 0, _ => by
    rw [Nat.add_zero, pk, pk]
    have h1 := pk_bd hx k
    have h2 := pk_bd hy k
    have hp := bp_pos k
    generalize xs.getD k 0 = x at hlt
    generalize ys.getD k 0 = y at hlt
    have : (x + 1) * bp k ≤ y * bp k := Int.mul_le_mul_of_nonneg_right (by omega) (by omega)
    rw [Int.add_mul] at this
    omega
  | d + 1, h => by
    have ih := pk_order hx hy k hlt d (fun j h1 h2 => h j h1 (by omega))
    rw [Nat.add_succ, pk, pk, h (k + 1 + d) (by omega) (by omega)]
    omega
theorem same_val {xs ys : List Int} (hl : xs.length = ys.length) (h : ∀ j, j < xs.length → xs.getD j 0 = ys.getD j 0) : val xs = val ys := by
  unfold val
  rw [← hl]
  exact pk_congr _ h
end Go.Proofs.YthkmhpkoanmbkaaDoor
