/-
  The least bits with all words of a width, two ways: words that follow each other, and words picked out and sorted. Plain, no program.
-/
import Derived.Test.YtdnikkmioighkaaDoorKit
import Derived.Lib.TrimByte
import Derived.Lib.Repeat
namespace Go.Proofs.YtdnikkmioighkaaDoor
open Go.RowKit
set_option linter.unusedVariables false

/-- The word's copies cut to the width, without the ones at their end. -/
def nxW (W : Nat) (r : List UInt8) : List UInt8 := Lib.trimRightB ((Lib.repeatL r (W / r.length + 1)).take W) 49
def wAt (W : Nat) : Nat → List UInt8
  | 0 => [48]
  | k + 1 => if wAt W k = [] ∨ nxW W (wAt W k) = [] then [] else (nxW W (wAt W k)).take ((nxW W (wAt W k)).length - 1) ++ [49]
def oAt (W : Nat) : Nat → List UInt8
  | 0 => []
  | k + 1 => if wAt W k ≠ [] ∧ W % (wAt W k).length = 0 then oAt W k ++ wAt W k else oAt W k
/-- The answer. -/
def LW (W : Nat) : List UInt8 := oAt W 24
/-- Which word it is. -/
def ixW (W : Nat) (r : List UInt8) : Nat := ((List.range 25).find? fun k => wAt W k == r).getD 24
def okW (W k : Nat) : Bool := wAt W k == [] || (decide ((wAt W k).length ≤ W) && ((ixW W (wAt W k) == k) && (decide ((oAt W (k + 1)).length ≤ 64) && (!(nxW W (wAt W k) == []) || oAt W (k + 1) == LW W))))
theorem okW_all : ∀ W, W < 7 → W = 0 ∨ ((wAt W 24 == []) && ((List.range 24).all fun k => okW W k)) = true := by decide +kernel
theorem okW_at {W k : Nat} (h1 : 1 ≤ W) (h6 : W ≤ 6) (hr : wAt W k ≠ []) (hk : k ≤ 24) : k < 24 ∧ (wAt W k).length ≤ W ∧ ixW W (wAt W k) = k ∧ (oAt W (k + 1)).length ≤ 64 ∧ (nxW W (wAt W k) = [] → oAt W (k + 1) = LW W) := by
  rcases okW_all W (by omega) with h | h
  · omega
  · obtain ⟨h2, h3⟩ := Bool.and_eq_true_iff.1 h
    have hk' : k < 24 := by
      apply Nat.lt_of_not_le
      intro c
      obtain rfl : k = 24 := by omega
      exact hr (by simpa using h2)
    have h4 := List.all_eq_true.1 h3 k (List.mem_range.2 hk')
    unfold okW at h4
    have h5 : (wAt W k == []) = false := by simpa using hr
    rw [h5] at h4
    simp only [Bool.false_or, Bool.and_eq_true, decide_eq_true_eq, beq_iff_eq, Bool.or_eq_true, Bool.not_eq_true'] at h4
    obtain ⟨a, b, c, d⟩ := h4
    refine ⟨hk', a, b, c, fun e => ?_⟩
    rcases d with d | d
    · rw [e] at d; simp at d
    · exact d
end Go.Proofs.YtdnikkmioighkaaDoor
