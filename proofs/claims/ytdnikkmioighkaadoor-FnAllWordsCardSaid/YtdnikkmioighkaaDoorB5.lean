/-
  Contracts of RunLengths: the program's and the reference's give the same. No condition but the length of the texts.
-/
import Derived.Test.YtdnikkmioighkaaDoorB4
namespace Go.Proofs.YtdnikkmioighkaaDoor
open Go.RowKit
set_option linter.unusedVariables false

/-- The last element one greater. -/
def bump (l : List Int) : List Int := l.set (l.length - 1) (l.getD (l.length - 1) 0 + 1)
theorem bump_len (l : List Int) : (bump l).length = l.length := by simp [bump]
theorem bump_snoc (l : List Int) (x : Int) : bump (l ++ [x]) = l ++ [x + 1] := by
  simp [bump]
/-- A run begins at place k. -/
def newRun (s : ByteArray) (k : Nat) : Bool := decide (k = 0) || decide (byt s (k - 1) ≠ byt s k)
/-- The lengths of the runs of the first k bytes. -/
def runL (s : ByteArray) : Nat → List Int
  | 0 => []
  | k + 1 => if newRun s k = true then runL s k ++ [1] else bump (runL s k)
theorem runL_len (s : ByteArray) : ∀ k, (runL s k).length ≤ k ∧ (0 < k → 0 < (runL s k).length)
  | 0 => by simp [runL]
  | k + 1 => by
    have h := runL_len s k
    simp only [runL]
    split
    · simp; omega
    · rename_i hn
      rw [bump_len]
      have : k ≠ 0 := fun e => hn (by simp [newRun, e])
      omega
theorem runL_bd (s : ByteArray) : ∀ k, ∀ x ∈ runL s k, 1 ≤ x ∧ x ≤ (k : Int)
  | 0 => by simp [runL]
  | k + 1 => by
    have h := runL_bd s k
    have hl := runL_len s k
    simp only [runL]
    split
    · intro x hx
      rcases List.mem_append.1 hx with h' | h'
      · have := h x h'; omega
      · simp at h'; omega
    · rename_i hn
      have h0 : k ≠ 0 := fun e => hn (by simp [newRun, e])
      intro x hx
      rcases List.mem_or_eq_of_mem_set hx with h' | h'
      · have := h x h'; omega
      · have hm : (runL s k).getD ((runL s k).length - 1) 0 ∈ runL s k := by
          rw [List.getD_eq_getElem?_getD, List.getElem?_eq_getElem (by omega)]
          exact List.getElem_mem _
        have := h _ hm
        omega
noncomputable def rnR (s : ByteArray) : List Int := if bitsB s = true then runL s s.size else []
theorem rnR_len (s : ByteArray) : (rnR s).length < 1000000000000 := by
  unfold rnR
  split
  · rename_i h
    have := bitsB_true h
    have := (runL_len s s.size).1
    omega
  · simp
end Go.Proofs.YtdnikkmioighkaaDoor
