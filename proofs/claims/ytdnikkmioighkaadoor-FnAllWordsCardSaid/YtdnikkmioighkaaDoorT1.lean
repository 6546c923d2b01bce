/-
  Contracts of the reference's l02Table, l02Move and TableCycles. Condition: the text's length.
-/
import Derived.Test.YtdnikkmioighkaaDoorE1
namespace Go.Proofs.YtdnikkmioighkaaDoor
open Go.RowKit
set_option linter.unusedVariables false

/-- The state after a step with a table of a width. -/
def tf (s : ByteArray) (W x : Nat) : Nat := if W = 0 then 0 else x / 2 ||| bitN s x * 2 ^ (W - 1)
theorem tf_lt {s : ByteArray} {W : Nat} (hb : BitsTo s s.size) (hs : s.size = 2 ^ W) : ∀ x, x < 2 ^ W → tf s W x < 2 ^ W := by
  intro x hx
  unfold tf
  split
  · exact Nat.pow_pos (by decide)
  · rename_i h
    have h1 := (bitN_byt hb (show x < s.size by omega)).2
    have e : 2 ^ W = 2 ^ (W - 1) * 2 := by rw [← Nat.pow_succ, show (W - 1).succ = W by omega]
    have h2 : bitN s x * 2 ^ (W - 1) ≤ 1 * 2 ^ (W - 1) := Nat.mul_le_mul_right _ h1
    have h3 : 0 < 2 ^ (W - 1) := Nat.pow_pos (by decide)
    exact Nat.or_lt_two_pow (by omega) (by omega)
/-- A table of a width. -/
noncomputable def tcB (wd : Int) (s : ByteArray) : Bool := inR wd 0 6 && (bitsB s && decide ((s.size : Int) = sh wd))
theorem tcB_true {wd : Int} {s : ByteArray} (h : tcB wd s = true) : ∃ W : Nat, wd = W ∧ W ≤ 6 ∧ BitsTo s s.size ∧ s.size = 2 ^ W := by
  unfold tcB at h
  obtain ⟨h1, h2⟩ := Bool.and_eq_true_iff.1 h
  obtain ⟨h3, h4⟩ := Bool.and_eq_true_iff.1 h2
  have h5 := inR_true h1
  obtain ⟨W, rfl⟩ := Int.eq_ofNat_of_zero_le h5.1
  refine ⟨W, rfl, by omega, (bitsB_true h3).1, ?_⟩
  have := of_decide_eq_true h4
  rw [sh_nat, Int.toNat_natCast] at this
  omega
end Go.Proofs.YtdnikkmioighkaaDoor
