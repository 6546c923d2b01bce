/-
  Contracts of allIn (through slices.ContainsFunc and its closure), isOutputs and l03Outputs. Conditions: the list is one of the law's own, with at most 2^20 elements.
-/
import Derived.Test.YtdnikkmioighkaaDoorLst
namespace Go.Proofs.YtdnikkmioighkaaDoor
open Go.RowKit
set_option linter.unusedVariables false

/-- All elements lie from lo to hi. -/
def allB (xs : List Int) (lo hi : Int) : Bool := xs.all fun x => inR x lo hi
theorem allB_bad {xs : List Int} {lo hi : Int} {k : Nat} (hk : k < xs.length) (h : inR (xs.getD k 0) lo hi = false) : allB xs lo hi = false := by
  have e : xs.getD k 0 = xs[k] := by simp [List.getD, hk]
  rw [e] at h
  cases hh : allB xs lo hi with
  | false => rfl
  | true => have := List.all_eq_true.1 hh _ (List.getElem_mem hk); rw [h] at this; cases this
theorem allB_good {xs : List Int} {lo hi : Int} (h : ∀ j, j < xs.length → inR (xs.getD j 0) lo hi = true) : allB xs lo hi = true := by
  refine List.all_eq_true.2 fun x hx => ?_
  obtain ⟨j, hj, rfl⟩ := List.getElem_of_mem hx
  have := h j hj
  simpa [List.getD, hj] using this
theorem allB_get {xs : List Int} {lo hi : Int} (h : allB xs lo hi = true) {k : Nat} (hk : k < xs.length) : lo ≤ xs.getD k 0 ∧ xs.getD k 0 ≤ hi := by
  have e : xs.getD k 0 = xs[k] := by simp [List.getD, hk]
  rw [e]
  exact inR_true (List.all_eq_true.1 h _ (List.getElem_mem hk))

/-- Outputs: from 3 to 64 numbers from 0 to 99999. -/
def outB (xs : List Int) : Bool := inR xs.length 3 64 && allB xs 0 99999
end Go.Proofs.YtdnikkmioighkaaDoor
