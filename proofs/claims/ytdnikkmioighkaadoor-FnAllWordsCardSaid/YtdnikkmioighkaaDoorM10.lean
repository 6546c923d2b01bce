/-
  Texts of bits: every byte is 48 or 49 exactly where trimming both bytes off leaves nothing. No condition; no Go program here.
-/
import Derived.Test.YtdnikkmioighkaaDoorKit
import Derived.Lib.SlTrimSet
namespace Go.Proofs.YtdnikkmioighkaaDoor
open Go.RowKit
set_option linter.unusedVariables false

/-- The first k bytes are bits. -/
def BitsTo (s : ByteArray) (k : Nat) : Prop := ∀ j (h : j < s.size), j < k → s[j].toNat = 48 ∨ s[j].toNat = 49
theorem BitsTo.zero (s : ByteArray) : BitsTo s 0 := fun _ _ h => by omega
theorem BitsTo.succ {s : ByteArray} {k : Nat} (h : BitsTo s k) (hk : k < s.size) (h1 : s[k].toNat = 48 ∨ s[k].toNat = 49) : BitsTo s (k + 1) := fun j hj hl => by
  by_cases e : j = k
  · subst e; exact h1
  · exact h j hj (by omega)
open Classical in
/-- A text of at most 400 bits. -/
noncomputable def bitsB (s : ByteArray) : Bool := decide (BitsTo s s.size) && decide (s.size ≤ 400)
theorem bitsB_bad {s : ByteArray} {k : Nat} (hk : k < s.size) (h : s[k].toNat ≠ 48) (h' : s[k].toNat ≠ 49) : bitsB s = false := by
  have : ¬ BitsTo s s.size := fun g => by have := g k hk hk; omega
  simp [bitsB, this]
theorem bitsB_all {s : ByteArray} (h : BitsTo s s.size) : bitsB s = decide (s.size ≤ 400) := by simp [bitsB, h]
theorem bitsB_true {s : ByteArray} (h : bitsB s = true) : BitsTo s s.size ∧ s.size ≤ 400 := by simpa [bitsB] using h
theorem bitsB_long {s : ByteArray} (h : ¬ s.size ≤ 400) : bitsB s = false := by simp [bitsB, h]

theorem dropWhile_nil {α : Type} (p : α → Bool) (l : List α) : l.dropWhile p = [] ↔ ∀ x ∈ l, p x = true := by
  induction l with
  | nil => simp
  | cons a l ih =>
    by_cases h : p a = true
    · simp [h, ih]
    · simp [h]
theorem trimS_nil (l cs : List UInt8) : Lib.trimS l cs = [] ↔ ∀ x ∈ l, cs.contains x = true := by
  unfold Lib.trimS Lib.trimLeftS Lib.trimRightS
  rw [dropWhile_nil]
  constructor
  · intro h
    by_cases e : ∀ x ∈ l.reverse, cs.contains x = true
    · intro x hx; exact e x (by simpa using hx)
    · exfalso
      have hne : l.reverse.dropWhile (cs.contains ·) ≠ [] := fun h' => e ((dropWhile_nil _ _).1 h')
      have h1 := List.head_dropWhile_not (cs.contains ·) hne
      have h2 := h ((l.reverse.dropWhile (cs.contains ·)).head hne) (by rw [List.mem_reverse]; exact List.head_mem hne)
      rw [h2] at h1; exact absurd h1 (by decide)
  · intro h x hx
    have : x ∈ l.reverse := by
      have hx' : x ∈ l.reverse.dropWhile (cs.contains ·) := by simpa using hx
      exact (List.dropWhile_sublist _).subset hx'
    exact h x (by simpa using this)
theorem at_data (s : ByteArray) (j : Nat) (h : j < s.size) : s.data.toList[j]? = some s[j] := by
  have hl : j < s.data.toList.length := by simpa using h
  rw [List.getElem?_eq_getElem hl]
  simp
  rfl
theorem trim_bits (s : ByteArray) : Lib.trimS s.data.toList [48, 49] = [] ↔ BitsTo s s.size := by
  rw [trimS_nil]
  constructor
  · intro h j hj _
    have hm := h s[j] (List.mem_of_getElem? (at_data s j hj))
    simp at hm
    rcases hm with e | e <;> rw [e] <;> simp
  · intro h x hx
    obtain ⟨j, hj, rfl⟩ := List.getElem_of_mem hx
    have hs : j < s.size := by simpa using hj
    have e := at_data s j hs
    rw [List.getElem?_eq_getElem hj] at e
    rw [Option.some.inj e]
    have := h j hs hs
    have h2 : s[j] = 48 ∨ s[j] = 49 := by
      rcases this with e | e
      · exact .inl (UInt8.toNat_inj.1 e)
      · exact .inr (UInt8.toNat_inj.1 e)
    rcases h2 with e | e <;> rw [e] <;> decide
/-- What the comparison with the empty text says. -/
theorem trim_eq (s : ByteArray) : (⟨(Lib.trimS s.data.toList [48, 49]).toArray⟩ : ByteArray).toList.isEmpty = true ↔ BitsTo s s.size := by
  rw [← trim_bits, Lib.toList_data, List.isEmpty_iff]
end Go.Proofs.YtdnikkmioighkaaDoor
