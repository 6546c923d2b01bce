/-
  Contract of the reference's l02Equations. Conditions: at most 32 bits, the width no more than their number.
-/
import Derived.Test.YtdnikkmioighkaaDoorApp
import Derived.Test.YtdnikkmioighkaaDoorM24
import Derived.Test.YtdnikkmioighkaaDoorC19
namespace Go.Proofs.YtdnikkmioighkaaDoor
open Go.RowKit
set_option linter.unusedVariables false

/-- Natural numbers as a list of int64. -/
def nl (es : List Nat) : List Int := es.map fun n : Nat => (n : Int)
theorem nl_len (es : List Nat) : (nl es).length = es.length := by simp [nl]
theorem nl_append (es fs : List Nat) : nl (es ++ fs) = nl es ++ nl fs := by simp [nl]
theorem nl_snoc (es : List Nat) (e : Nat) : nl (es ++ [e]) = nl es ++ [(e : Int)] := by simp [nl]
theorem nl_getD (es : List Nat) (i : Nat) : (nl es).getD i 0 = ((es.getD i 0 : Nat) : Int) := by
  simp only [nl, List.getD, List.getElem?_map]
  cases es[i]? <;> rfl
theorem bit_div (b k : Nat) : b.testBit k = decide (b / 2 ^ k % 2 = 1) := by
  rw [Nat.testBit_eq_decide_div_mod_eq]
theorem and_yes {b k : Nat} (h : b < 9223372036854775808) (hb : b.testBit k = true) : bits .and .i64 ((b : Int) / 2 ^ k) 1 = 1 := by
  rw [bit_div] at hb
  rw [and_one_nat h, of_decide_eq_true hb]; rfl
theorem and_no {b k : Nat} (h : b < 9223372036854775808) (hb : b.testBit k = false) : bits .and .i64 ((b : Int) / 2 ^ k) 1 = 0 := by
  rw [bit_div] at hb
  rw [and_one_nat h, show b / 2 ^ k % 2 = 0 by have := of_decide_eq_false hb; omega]; rfl
theorem pow33 {W : Nat} (h : W ≤ 32) : 2 ^ (W + 1) ≤ 8589934592 := Nat.le_trans (Nat.pow_le_pow_right (by decide) (show W + 1 ≤ 33 by omega)) (by decide)
theorem byte_bit {s : ByteArray} (hb : BitsTo s s.size) {i : Nat} (h : i < s.size) : IntKind.u8.wrap ((s[i].toNat : Int) - 48) = ((bitN s i : Nat) : Int) := by
  have h1 := (bitN_byt hb h).1
  have h2 := byt_bits hb h
  rw [byt_at s h] at h1 h2
  rw [h1]
  exact IntWalk.u8_in _ (by omega)
end Go.Proofs.YtdnikkmioighkaaDoor
