/-
  Contracts of NumberOfBits, TakeEvery and OnesOf: the program's and the reference's give the same. No condition but the length of the texts.
-/
import Derived.Test.YtdnikkmioighkaaDoorB2
import Derived.Lib.Bytealg
namespace Go.Proofs.YtdnikkmioighkaaDoor
open Go.RowKit
set_option linter.unusedVariables false

/-- The number of the first k bits. -/
def numL (s : ByteArray) : Nat → Int
  | 0 => 0
  | k + 1 => 2 * numL s k + (byt s k - 48)
theorem numL_bd {s : ByteArray} (hb : BitsTo s s.size) : ∀ k, k ≤ s.size → 0 ≤ numL s k ∧ numL s k < 2 ^ k
  | 0, _ => by simp [numL]
  | k + 1, hk => by
    have h1 := numL_bd hb k (by omega)
    have h2 := byt_bits hb (i := k) (by omega)
    have e : (2 : Int) ^ (k + 1) = 2 * 2 ^ k := by rw [Int.pow_succ]; omega
    simp only [numL]
    omega
theorem numL_60 {s : ByteArray} (hb : BitsTo s s.size) (h60 : s.size ≤ 60) {k : Nat} (hk : k ≤ s.size) : 0 ≤ numL s k ∧ numL s k ≤ 1152921504606846975 := by
  have h1 := numL_bd hb k hk
  have h2 : (2 : Nat) ^ k ≤ 2 ^ 60 := Nat.pow_le_pow_right (by decide) (by omega)
  have h3 : ((2 : Int) ^ k) = ((2 ^ k : Nat) : Int) := by simp
  rw [h3] at h1
  omega
/-- NumberOfBits' results. -/
noncomputable def nbB (s : ByteArray) : Bool := bitsB s && decide (s.size ≤ 60)
noncomputable def nbN (s : ByteArray) : Int := if nbB s = true then numL s s.size else 0
theorem nbB_true {s : ByteArray} (h : nbB s = true) : bitsB s = true ∧ s.size ≤ 60 ∧ nbN s = numL s s.size := by
  have h' := h
  simp only [nbB, Bool.and_eq_true, decide_eq_true_eq] at h'
  exact ⟨h'.1, h'.2, by simp [nbN, h]⟩

/-- Every st-th bit of a text in a circle, the first k of them. -/
def teL (s : ByteArray) (st : Int) (k : Nat) : List Int := (List.range k).map fun (i : Nat) => byt s ((i : Int) * st % s.size).toNat
theorem teL_len (s : ByteArray) (st : Int) (k : Nat) : (teL s st k).length = k := by simp [teL]
theorem teL_succ (s : ByteArray) (st : Int) (k : Nat) : teL s st (k + 1) = teL s st k ++ [byt s ((k : Int) * st % s.size).toNat] := by simp [teL, List.range_succ]
/-- TakeEvery's results. -/
noncomputable def teB (s : ByteArray) (st : Int) : Bool := bitsB s && (decide (s.size ≠ 0) && inR st 1 400)
noncomputable def teS (s : ByteArray) (st : Int) : ByteArray := if teB s st = true then strOfNums (teL s st s.size) else ⟨#[]⟩
theorem te_bd {k : Nat} {st : Int} (hk : k ≤ 400) (h1 : 1 ≤ st) (h2 : st ≤ 400) : 0 ≤ (k : Int) * st ∧ (k : Int) * st ≤ 160000 := by
  obtain ⟨m, rfl⟩ := Int.eq_ofNat_of_zero_le (show 0 ≤ st by omega)
  have : k * m ≤ 400 * 400 := Nat.mul_le_mul hk (by omega)
  have e : ((k : Int) * (m : Int)) = ((k * m : Nat) : Int) := by simp
  rw [e]; omega
theorem isEmpty_size (s : ByteArray) : s.toList.isEmpty = true ↔ s.size = 0 := by
  rw [Lib.toList_data, List.isEmpty_iff]
  constructor
  · intro h
    have := congrArg List.length h
    simpa using this
  · intro h
    exact List.length_eq_zero_iff.1 (by simpa using h)
end Go.Proofs.YtdnikkmioighkaaDoor
