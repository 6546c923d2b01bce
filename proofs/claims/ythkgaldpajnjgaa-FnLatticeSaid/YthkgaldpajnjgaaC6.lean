/-
  Contracts of a congruence's step and of a register's polynomial. Conditions stand in each contract (valid arguments).
-/
import Derived.Test.YthkgaldpajnjgaaC1
import Derived.Test.YthkgaldpajnjgaaBits
namespace Go.Proofs.Ythkgaldpajnjgaa
open Go.RowKit
set_option linter.unusedVariables false

theorem vcB_true {m f a : Int} (h : vcB m f a = true) : (2 ≤ m ∧ m ≤ 100000) ∧ (0 ≤ f ∧ f ≤ m - 1) ∧ (0 ≤ a ∧ a ≤ m - 1) := by
  simp only [vcB, Bool.and_eq_true] at h
  exact ⟨inR_true h.1, inR_true h.2.1, inR_true h.2.2⟩
theorem vrB_true {wd tp : Int} (h : vrB wd tp = true) : (0 ≤ wd ∧ wd ≤ 16) ∧ (0 ≤ tp ∧ tp ≤ sh wd - 1) := by
  simp only [vrB, Bool.and_eq_true] at h
  exact ⟨inR_true h.1, inR_true h.2⟩
/-- A state of a valid congruence. -/
def nsB (m f a x : Int) : Bool := vcB m f a && inR x 0 (m - 1)
/-- The state behind x. -/
def stp (m f a x : Int) : Int := (f * x + a) % m
theorem stp_bd {m f a x : Int} (hm : 2 ≤ m) : 0 ≤ stp m f a x ∧ stp m f a x ≤ m - 1 := by
  have h1 := Int.emod_nonneg (f * x + a) (show m ≠ 0 by omega)
  have h2 := Int.emod_lt_of_pos (f * x + a) (show 0 < m by omega)
  unfold stp; omega
theorem mul_bd {m f x : Int} (hm : m ≤ 100000) (f0 : 0 ≤ f) (f1 : f ≤ m - 1) (x0 : 0 ≤ x) (x1 : x ≤ m - 1) : 0 ≤ f * x ∧ f * x ≤ 9999800001 :=
  ⟨Int.mul_nonneg f0 x0, Int.le_trans (Int.mul_le_mul (show f ≤ 99999 by omega) (show x ≤ 99999 by omega) x0 (by omega)) (by omega)⟩
def nsV (m f a x : Int) : Int := if nsB m f a x = true then stp m f a x else 0


/-- A register's polynomial. -/
def polyV (wd tp : Int) : Int := if vrB wd tp = true then orI (sh wd) tp else 0
end Go.Proofs.Ythkgaldpajnjgaa
