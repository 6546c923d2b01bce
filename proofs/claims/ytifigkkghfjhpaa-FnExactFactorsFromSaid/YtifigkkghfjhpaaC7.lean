/-
  Contracts of the validity of a fraction. No condition beyond int64's bounds.
-/
import Derived.Test.YtifigkkghfjhpaaC1
import Derived.Test.YtifigkkghfjhpaaC3
namespace Go.Proofs.Ytifigkkghfjhpaa
open Go.RowKit
set_option linter.unusedVariables false

def absI (n : Int) : Int := (n.natAbs : Int)
theorem absI_pos {n : Int} (h : 0 ≤ n) : absI n = n := by unfold absI; omega
theorem absI_neg {n : Int} (h : n < 0) : absI n = -n := by unfold absI; omega
theorem absI_nonneg (n : Int) : 0 ≤ absI n := by unfold absI; omega
theorem absI_le {n m : Int} (h : -m ≤ n) (h' : n ≤ m) : absI n ≤ m := by unfold absI; omega
/-- A fraction is valid. -/
def vfB (n d : Int) : Bool := inR d 1 1000000000000000000 && (inR n (-1000000000000000000) 1000000000000000000 && (gcdI (absI n) d == 1))
theorem vfB_true {n d : Int} (h : vfB n d = true) : (1 ≤ d ∧ d ≤ 1000000000000000000) ∧ (-1000000000000000000 ≤ n ∧ n ≤ 1000000000000000000) ∧ gcdI (absI n) d = 1 := by
  simp only [vfB, Bool.and_eq_true, beq_iff_eq] at h
  exact ⟨inR_true h.1, inR_true h.2.1, h.2.2⟩

theorem l00Max_abs (n : Int) (w : World) (h0 : -1000000000000000000 ≤ n) (h1 : n ≤ 1000000000000000000) :
    Calls Try.prog 66 #[.int .i64 n, .int .i64 (-n)] w fun e w' => e = .returned (.int .i64 (absI n)) ∧ w = w' := by
  by_cases h : -n < n
  · have e : absI n = n := absI_pos (by omega)
    rw [e]; clear e
    go_enter Try.func66, Try.ntmps66
    go_wp2
    go_ret
    exact ⟨rfl, rfl⟩
  · have e : absI n = -n := by unfold absI; omega
    rw [e]; clear e
    go_enter Try.func66, Try.ntmps66
    go_wp2
    go_ret
    exact ⟨rfl, rfl⟩
theorem l00Max_of (n m : Int) (w : World) (hm : m = -n) (h0 : -1000000000000000000 ≤ n) (h1 : n ≤ 1000000000000000000) :
    Calls Try.prog 66 #[.int .i64 n, .int .i64 m] w fun e w' => e = .returned (.int .i64 (absI n)) ∧ w = w' := by
  subst hm
  exact l00Max_abs n w h0 h1
theorem size_any (n : Int) (w : World) (h0 : -1000000000000000000 ≤ n) (h1 : n ≤ 1000000000000000000) :
    Calls Try.prog 51 #[.int .i64 n] w fun e w' => e = .returned (.int .i64 (absI n)) ∧ w = w' := by
  by_cases h : n < 0
  · have e : absI n = -n := absI_neg h
    rw [e]; clear e
    go_enter Try.func51, Try.ntmps51
    go_wp2
    go_ret
    exact ⟨rfl, rfl⟩
  · have e : absI n = n := absI_pos (by omega)
    rw [e]; clear e
    go_enter Try.func51, Try.ntmps51
    go_wp2
    go_ret
    exact ⟨rfl, rfl⟩
end Go.Proofs.Ytifigkkghfjhpaa
