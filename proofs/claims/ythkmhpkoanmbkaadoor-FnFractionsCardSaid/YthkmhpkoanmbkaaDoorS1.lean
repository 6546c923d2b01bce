/-
  Contracts of the reference's numbers of two words. Conditions stand in each contract.
-/
import Derived.Test.YthkmhpkoanmbkaaDoorC9
import Derived.Test.YthkmhpkoanmbkaaDoorBits
import Derived.Test.YthkmhpkoanmbkaaDoorN6
import Derived.Deep.RegionHeld3
namespace Go.Proofs.YthkmhpkoanmbkaaDoor
open Go.RowKit
set_option linter.unusedVariables false

def wd (v : Int) : Value := .agg #[.int .u64 (v / 18446744073709551616), .int .u64 (v % 18446744073709551616)]
theorem mod_letters {a : Int} (h0 : 0 ≤ a) (h1 : a < 42535295865117307932921825928971026432) : ∃ h l : Int, a / 18446744073709551616 = h ∧ a % 18446744073709551616 = l ∧ (0 ≤ h ∧ h < 2305843009213693952) ∧ (0 ≤ l ∧ l < 18446744073709551616) ∧ a = h * 18446744073709551616 + l := ⟨_, _, rfl, rfl, by omega, by omega, by omega⟩
theorem wd_of {v h l : Int} (e : v = h * 18446744073709551616 + l) (l0 : 0 ≤ l) (l1 : l < 18446744073709551616) : wd v = .agg #[.int .u64 h, .int .u64 l] := by
  have e1 : v / 18446744073709551616 = h := by omega
  have e2 : v % 18446744073709551616 = l := by omega
  unfold wd
  rw [e1, e2]
theorem times_words {a b xh xl yh yl P Q R S : Int} (ha : a = xh * 4294967296 + xl) (hb : b = yh * 4294967296 + yl) (hP : P = xl * yl) (hQ : Q = xh * yl) (hR : R = xl * yh) (hS : S = xh * yh) : a * b = S * 18446744073709551616 + (Q + R) * 4294967296 + P := by
  rw [ha, hb, hP, hQ, hR, hS]; grind
theorem word_bd {x y m n : Int} (x0 : 0 ≤ x) (x1 : x ≤ m) (y0 : 0 ≤ y) (y1 : y ≤ n) : 0 ≤ x * y ∧ x * y ≤ m * n := by
  refine ⟨Int.mul_nonneg x0 y0, ?_⟩
  exact Int.le_trans (Int.mul_le_mul_of_nonneg_right x1 y0) (Int.mul_le_mul_of_nonneg_left y1 (by omega))
end Go.Proofs.YthkmhpkoanmbkaaDoor
