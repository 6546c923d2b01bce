/-
  Contracts of the functions that write the binary digits of a number. Conditions: the number is not negative and fits, the width is from 0 to 60.
-/
import Derived.Test.YthkgaldpajnjgaaC1
import Derived.Test.YthkgaldpajnjgaaBits
import Derived.Test.YthkgaldpajnjgaaOwn
namespace Go.Proofs.Ythkgaldpajnjgaa
open Go.RowKit
set_option linter.unusedVariables false

theorem tB : SliceT Try.prog 22 5 .u8 1 := ⟨Try.underlying22, Try.underlying5, info_parts (by kernel_rfl)⟩

/-- The digit of 2 to the power of i, as a byte's number. -/
def dg (n : Int) (i : Nat) : Int := 48 + n / 2 ^ i % 2
theorem dg_bd (n : Int) (i : Nat) : 48 ≤ dg n i ∧ dg n i ≤ 49 := by unfold dg; omega
/-- The first k of w digits, the greatest one first. -/
def digs (n : Int) (w k : Nat) : List Int := (List.range k).map fun j => dg n (w - 1 - j)
theorem digs_len (n : Int) (w k : Nat) : (digs n w k).length = k := by simp [digs]
theorem digs_succ (n : Int) (w k : Nat) : digs n w (k + 1) = digs n w k ++ [dg n (w - 1 - k)] := by simp [digs, List.range_succ]
theorem digs_step (n : Int) {w i : Nat} (h : i + 1 ≤ w) : digs n w (w - i) = digs n w (w - (i + 1)) ++ [dg n i] := by
  have e := digs_succ n w (w - (i + 1))
  rwa [show w - (i + 1) + 1 = w - i by omega, show w - 1 - (w - (i + 1)) = i by omega] at e
theorem shr_nonneg {n : Int} (h : 0 ≤ n) (i : Nat) : 0 ≤ n / 2 ^ i := Int.ediv_nonneg h (Int.le_of_lt (Int.pow_pos (by decide)))
theorem shr_le {n : Int} (h : 0 ≤ n) (i : Nat) : n / 2 ^ i ≤ n := by
  obtain ⟨m, rfl⟩ := Int.eq_ofNat_of_zero_le h
  have : m / 2 ^ i ≤ m := Nat.div_le_self _ _
  have e : ((m : Int) / 2 ^ i) = ((m / 2 ^ i : Nat) : Int) := by simp
  rw [e]; omega

/-- BitsOf's results. -/
def boB (n wd : Int) : Bool := inR wd 0 60 && inR n 0 (sh wd - 1)
def boS (n wd : Int) : ByteArray := if boB n wd = true then strOfNums (digs n wd.toNat wd.toNat) else ⟨#[]⟩
theorem shr_zero {n wd : Int} (h : 0 ≤ n) : (n / 2 ^ wd.toNat = 0) ↔ n ≤ sh wd - 1 := by
  have hp := sh_pos wd
  show n / sh wd = 0 ↔ _
  constructor
  · intro e
    have := Int.lt_ediv_add_one_mul_self n (show 0 < sh wd by omega)
    rw [e] at this; omega
  · intro e
    exact Int.ediv_eq_zero_of_lt h (by omega)

end Go.Proofs.Ythkgaldpajnjgaa
