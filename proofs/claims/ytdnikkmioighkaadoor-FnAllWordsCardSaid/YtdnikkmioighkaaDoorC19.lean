/-
  Contracts of the polynomials' degree, product and division. Conditions: the numbers are not negative and fit an int64.
-/
import Derived.Test.YtdnikkmioighkaaDoorC15
import Derived.Test.YtdnikkmioighkaaDoorM5
import Derived.Test.YtdnikkmioighkaaDoorBits
import Derived.Test.YtdnikkmioighkaaDoorShelf
import Derived.Lib.ItoaNum
namespace Go.Proofs.YtdnikkmioighkaaDoor
open Go.RowKit
set_option linter.unusedVariables false

theorem lib_bitLen {x : Nat} (h : x < 18446744073709551616) : Lib.bitLen x = bl x := by
  by_cases h0 : x = 0
  · subst h0
    exact Lib.bitLenAux_zero 64
  · have := Lib.bitLenAux_bounds 64 x (by simpa using h) h0
    unfold Lib.bitLen
    exact (bl_eq' this.1 this.2.1 this.2.2).symm
theorem shl_nat {b s : Nat} (h : b * 2 ^ s < 9223372036854775808) : wrap64 ((b : Int) * 2 ^ s) = ((b * 2 ^ s : Nat) : Int) := by
  have e : (b : Int) * 2 ^ s = ((b * 2 ^ s : Nat) : Int) := by rw [Int.natCast_mul, Int.natCast_pow]; rfl
  rw [e]
  exact IntWalk.wrap64_in _ ⟨by omega, by omega⟩
theorem shl_one {s : Nat} (h : s < 63) : wrap64 (2 ^ s) = ((2 ^ s : Nat) : Int) := by
  have h1 := Nat.pow_lt_pow_right (a := 2) (by decide) h
  have h2 : (2 : Nat) ^ 63 = 9223372036854775808 := by decide
  have e : (2 : Int) ^ s = ((2 ^ s : Nat) : Int) := by rw [Int.natCast_pow]; rfl
  rw [e]
  generalize 2 ^ s = z at h1 ⊢
  exact IntWalk.wrap64_in _ ⟨by omega, by omega⟩
theorem and_one_nat {b k : Nat} (h : b < 9223372036854775808) : bits .and .i64 ((b : Int) / 2 ^ k) 1 = ((b / 2 ^ k % 2 : Nat) : Int) := by
  have e : (b : Int) / 2 ^ k = ((b / 2 ^ k : Nat) : Int) := by rw [Int.natCast_ediv, Int.natCast_pow]; rfl
  have l := Nat.div_le_self b (2 ^ k)
  rw [e, show (1 : Int) = ((1 : Nat) : Int) from rfl, i64_and_nat _ _ (by omega) (by decide), Nat.and_one_is_mod]
end Go.Proofs.YtdnikkmioighkaaDoor
