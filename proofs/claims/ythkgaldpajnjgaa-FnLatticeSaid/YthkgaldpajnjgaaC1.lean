/-
  Contracts of the range tests, the validity tests of a congruence and of a register, and the copies of the argument structures. No condition.
-/
import Derived.Test.YthkgaldpajnjgaaKit
namespace Go.Proofs.Ythkgaldpajnjgaa
open Go.RowKit
set_option linter.unusedVariables false

theorem inRange_any (n lo hi : Int) (w : World) :
    Calls Try.prog 14 #[.int .i64 n, .int .i64 lo, .int .i64 hi] w fun e w' => e = .returned (.bool (inR n lo hi)) ∧ w = w' := by
  unfold inR
  by_cases h1 : lo ≤ n
  · go_enter Try.func14, Try.ntmps14
    go_wp2
    go_ret
    exact ⟨ret_bool (by simp [h1]), rfl⟩
  · go_enter Try.func14, Try.ntmps14
    go_wp2
    go_ret
    exact ⟨ret_bool (by rw [decide_eq_false (by omega)]; rfl), rfl⟩

/-- A congruence is valid. -/
def vcB (m f a : Int) : Bool := inR m 2 100000 && (inR f 0 (m - 1) && inR a 0 (m - 1))

theorem ValidCongruence_any (m f a : Int) (w : World) :
    Calls Try.prog 13 #[.agg #[.int .i64 m, .int .i64 f, .int .i64 a]] w fun e w' => e = .returned (.bool (vcB m f a)) ∧ Below w.heap.size w w' := by
  cases h1 : inR m 2 100000 with
  | false =>
    go_enter Try.func13, Try.ntmps13
    go_wp2_with (go_at_call 14; refine (inRange_any _ _ _ _).mono ?_; rintro e w' ⟨rfl, rfl⟩)
    go_ret
    exact ⟨ret_bool (by simp [vcB, h1]), (Below.refl _ _).alloc (Nat.le_refl _) _⟩
  | true =>
    have b1 := inR_true h1
    cases h2 : inR f 0 (m-1) with
    | false =>
      go_enter Try.func13, Try.ntmps13
      go_wp2_with (go_at_call 14; refine (inRange_any _ _ _ _).mono ?_; rintro e w' ⟨rfl, rfl⟩)
      go_ret
      exact ⟨ret_bool (by simp [vcB, h1, h2]), (Below.refl _ _).alloc (Nat.le_refl _) _⟩
    | true =>
      go_enter Try.func13, Try.ntmps13
      go_wp2_with (go_at_call 14; refine (inRange_any _ _ _ _).mono ?_; rintro e w' ⟨rfl, rfl⟩)
      go_ret
      exact ⟨ret_bool (by simp [vcB, h1, h2]), (Below.refl _ _).alloc (Nat.le_refl _) _⟩
/-- A register is valid. -/
def vrB (wd tp : Int) : Bool := inR wd 0 16 && inR tp 0 (sh wd - 1)

theorem inRange_of {n lo hi : Int} {b : Bool} (h : inR n lo hi = b) (w : World) :
    Calls Try.prog 14 #[.int .i64 n, .int .i64 lo, .int .i64 hi] w fun e w' => e = .returned (.bool b) ∧ w = w' := h ▸ inRange_any n lo hi w
end Go.Proofs.Ythkgaldpajnjgaa
