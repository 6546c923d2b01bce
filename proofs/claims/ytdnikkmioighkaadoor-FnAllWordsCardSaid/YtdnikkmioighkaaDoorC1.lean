/-
  Contracts of the range tests, the validity tests of a congruence and of a register, and the copies of the argument structures. No condition.
-/
import Derived.Test.YtdnikkmioighkaaDoorKit
namespace Go.Proofs.YtdnikkmioighkaaDoor
open Go.RowKit
set_option linter.unusedVariables false

theorem inRange_any (n lo hi : Int) (w : World) :
    Calls Tryd.prog 13 #[.int .i64 n, .int .i64 lo, .int .i64 hi] w fun e w' => e = .returned (.bool (inR n lo hi)) ∧ w = w' := by
  unfold inR
  by_cases h1 : lo ≤ n
  · go_enter Tryd.func13, Tryd.ntmps13
    go_wp2
    go_ret
    exact ⟨ret_bool (by simp [h1]), rfl⟩
  · go_enter Tryd.func13, Tryd.ntmps13
    go_wp2
    go_ret
    exact ⟨ret_bool (by rw [decide_eq_false (by omega)]; rfl), rfl⟩
theorem l00In_any (n lo hi : Int) (w : World) :
    Calls Tryd.prog 11 #[.int .i64 n, .int .i64 lo, .int .i64 hi] w fun e w' => e = .returned (.bool (inR n lo hi)) ∧ w = w' := by
  unfold inR
  by_cases h1 : lo ≤ n
  · go_enter Tryd.func11, Tryd.ntmps11
    go_wp2
    go_ret
    exact ⟨ret_bool (by simp [h1]), rfl⟩
  · go_enter Tryd.func11, Tryd.ntmps11
    go_wp2
    go_ret
    exact ⟨ret_bool (by rw [decide_eq_false (by omega)]; rfl), rfl⟩
theorem l00In_of {n lo hi : Int} {b : Bool} (h : inR n lo hi = b) (w : World) :
    Calls Tryd.prog 11 #[.int .i64 n, .int .i64 lo, .int .i64 hi] w fun e w' => e = .returned (.bool b) ∧ w = w' := h ▸ l00In_any n lo hi w

/-- A congruence is valid. -/
def vcB (m f a : Int) : Bool := inR m 2 100000 && (inR f 0 (m - 1) && inR a 0 (m - 1))

/-- A register is valid. -/
def vrB (wd tp : Int) : Bool := inR wd 0 16 && inR tp 0 (sh wd - 1)

theorem inRange_of {n lo hi : Int} {b : Bool} (h : inR n lo hi = b) (w : World) :
    Calls Tryd.prog 13 #[.int .i64 n, .int .i64 lo, .int .i64 hi] w fun e w' => e = .returned (.bool b) ∧ w = w' := h ▸ inRange_any n lo hi w
end Go.Proofs.YtdnikkmioighkaaDoor
