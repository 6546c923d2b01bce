/-
  Contract of the reference's l02Solves: whether equations have a solution. Conditions: the list is somebody's own, the width at most 32.
-/
import Derived.Test.YtdnikkmioighkaaDoorE1
namespace Go.Proofs.YtdnikkmioighkaaDoor
open Go.RowKit
set_option linter.unusedVariables false

open Classical in
/-- Whether there is a solution. -/
noncomputable def solvB (W : Nat) (es : List Nat) : Bool := decide (Solv W es)
theorem solvB_yes {W : Nat} {es : List Nat} (h : Solv W es) : solvB W es = true := by simp [solvB, h]
theorem solvB_no {W : Nat} {es : List Nat} (h : ¬ Solv W es) : solvB W es = false := by simp [solvB, h]
theorem solvB_true {W : Nat} {es : List Nat} (h : solvB W es = true) : Solv W es := by simpa [solvB] using h
theorem solvB_false {W : Nat} {es : List Nat} (h : solvB W es = false) : ¬ Solv W es := by simpa [solvB] using h
/-- The state of the elimination. -/
structure ElSt (W : Nat) (es : List Nat) (c : Nat) (lv : List Nat) : Prop where
  above : Above c lv
  same : Solv W lv ↔ Solv W es
  lt : ∀ e ∈ lv, e < 2 ^ (W + 1)
  len : lv.length ≤ es.length
theorem elp_len (left : List Nat) (c a : Nat) : ∀ k, (elp left c a k).length ≤ k
  | 0 => by simp [elp]
  | k + 1 => by
    have := elp_len left c a k
    rw [elp]; split
    · omega
    · rw [List.length_append]; simp; omega
theorem ElSt.none {W c : Nat} {es lv : List Nat} (h : ElSt W es c lv) (h0 : ∀ i, i < lv.length → (lv.getD i 0).testBit c = false) : ElSt W es (c + 1) lv :=
  ⟨elim_none h0 h.above, h.same, h.lt, h.len⟩
theorem ElSt.step {W c a : Nat} {es lv : List Nat} (h : ElSt W es c lv) (hc : c < W) (ha : a < lv.length) (hb : (lv.getD a 0).testBit c = true) : ElSt W es (c + 1) (elp lv c a lv.length) :=
  ⟨(elim_step hc ha hb h.above).2, (elim_step hc ha hb h.above).1.symm.trans h.same, elp_lt ha h.lt, Nat.le_trans (elp_len ..) h.len⟩
theorem ElSt.done {W : Nat} {es lv : List Nat} (h : ElSt W es W lv) : Solv W es ↔ ∀ e ∈ lv, e = 0 := h.same.symm.trans (elim_end h.above h.lt)
theorem ElSt.yes {W : Nat} {es lv : List Nat} (h : ElSt W es W lv) (h0 : ∀ i, i < lv.length → lv.getD i 0 = 0) : solvB W es = true :=
  solvB_yes (h.done.2 fun e he => by obtain ⟨i, hi, rfl⟩ := getD_of_mem he; exact h0 i hi)
theorem ElSt.no {W k : Nat} {es lv : List Nat} (h : ElSt W es W lv) (hk : k < lv.length) (h0 : lv.getD k 0 ≠ 0) : solvB W es = false :=
  solvB_no fun c => h0 (h.done.1 c _ (mem_getD hk))
theorem elp_at {left : List Nat} {c a k : Nat} (h : k = a) : elp left c a (k + 1) = elp left c a k := by rw [elp, if_pos h]
theorem elp_x {left : List Nat} {c a k : Nat} (h : k ≠ a) (hb : (left.getD k 0).testBit c = true) : elp left c a (k + 1) = elp left c a k ++ [left.getD k 0 ^^^ left.getD a 0] := by rw [elp, if_neg h, elv, if_pos hb]
theorem elp_o {left : List Nat} {c a k : Nat} (h : k ≠ a) (hb : (left.getD k 0).testBit c = false) : elp left c a (k + 1) = elp left c a k ++ [left.getD k 0] := by rw [elp, if_neg h, elv, hb]; rfl
/-- What is read of a list of numbers. -/
theorem OwnI.nat {base e : Nat} {W w : World} {v : Value} {es : List Nat} (h : OwnI .i64 base e W w v (nl es)) : ∃ g cap, v = .slice (some ⟨g, 0, none⟩) es.length cap ∧ base ≤ g ∧ g < w.heap.size ∧ ∀ j, j < es.length → w.cell? ⟨g, j, none⟩ = some (.int .i64 (es.getD j 0 : Nat)) := by
  obtain ⟨g, cap, rfl, h1, h2, _, _, h5, _⟩ := h.cell
  rw [nl_len] at h5 ⊢
  exact ⟨g, cap, rfl, h1, h2, fun j hj => by rw [h5 j hj, nl_getD]⟩
end Go.Proofs.YtdnikkmioighkaaDoor
