/-
  Contracts of OnesOf and AgreementsOf: the program's and the reference's give the same. No condition but the length of the texts.
-/
import Derived.Test.YtdnikkmioighkaaDoorB3
import Derived.Test.YtdnikkmioighkaaDoorLst
namespace Go.Proofs.YtdnikkmioighkaaDoor
open Go.RowKit
set_option linter.unusedVariables false

/-- How many of the first k bits are 1. -/
def oneL (s : ByteArray) : Nat → Int
  | 0 => 0
  | k + 1 => oneL s k + (byt s k - 48)
theorem oneL_bd {s : ByteArray} (hb : BitsTo s s.size) : ∀ k, k ≤ s.size → 0 ≤ oneL s k ∧ oneL s k ≤ k
  | 0, _ => by simp [oneL]
  | k + 1, hk => by
    have h1 := oneL_bd hb k (by omega)
    have h2 := byt_bits hb (i := k) (by omega)
    simp only [oneL]
    omega
theorem oneL_count {s : ByteArray} (hb : BitsTo s s.size) : ∀ k, k ≤ s.size → oneL s k = ((s.data.toList.take k).count 49 : Nat)
  | 0, _ => by simp [oneL]
  | k + 1, hk => by
    have h1 := oneL_count hb k (by omega)
    have h2 := hb k (by omega) (by omega)
    have h3 := at_data s k (by omega)
    have e : s.data.toList.take (k + 1) = s.data.toList.take k ++ [s[k]] := by rw [List.take_add_one, h3]; rfl
    rw [e, List.count_append]
    simp only [oneL]
    rw [h1, byt_at s (by omega)]
    rcases h2 with h | h
    · have : s[k] = 48 := UInt8.toNat_inj.1 h
      rw [this]; simp
    · have : s[k] = 49 := UInt8.toNat_inj.1 h
      rw [this]; simp
theorem oneL_all {s : ByteArray} (hb : BitsTo s s.size) : oneL s s.size = (Lib.countByte s.data.toList 49 : Nat) := by
  rw [oneL_count hb _ (Nat.le_refl _), List.take_of_length_le (by simp)]
  rfl
/-- OnesOf's number. -/
noncomputable def ooN (s : ByteArray) : Int := if bitsB s = true then oneL s s.size else 0

/-- Agreements less differences with the bits shifted in a circle, at the first k places. -/
def agS (s : ByteArray) (sh : Nat) : Nat → Int
  | 0 => 0
  | k + 1 => agS s sh k + (if byt s k = byt s ((k + sh) % s.size) then 1 else -1)
theorem agS_bd (s : ByteArray) (sh : Nat) : ∀ k : Nat, -(k : Int) ≤ agS s sh k ∧ agS s sh k ≤ k
  | 0 => by simp [agS]
  | k + 1 => by
    have h1 := agS_bd s sh k
    simp only [agS]
    split <;> omega
def agL (s : ByteArray) (m : Nat) : List Int := (List.range m).map fun sh => agS s sh s.size
theorem agL_len (s : ByteArray) (m : Nat) : (agL s m).length = m := by simp [agL]
theorem agL_succ (s : ByteArray) (m : Nat) : agL s (m + 1) = agL s m ++ [agS s m s.size] := by simp [agL, List.range_succ]
noncomputable def agB (s : ByteArray) : Bool := bitsB s && decide (s.size ≠ 0)
noncomputable def agR (s : ByteArray) : List Int := if agB s = true then agL s s.size else []
theorem agR_len (s : ByteArray) : (agR s).length < 1000000000000 := by
  unfold agR
  split
  · rename_i h
    have h2 : bitsB s = true := by simp [agB] at h; exact h.1
    have := bitsB_true h2
    rw [agL_len]; omega
  · simp
end Go.Proofs.YtdnikkmioighkaaDoor
