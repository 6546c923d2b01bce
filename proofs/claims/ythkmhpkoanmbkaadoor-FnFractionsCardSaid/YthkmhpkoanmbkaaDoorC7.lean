/-
  Contracts of the validity of a fraction. No condition beyond int64's bounds.
-/
import Derived.Test.YthkmhpkoanmbkaaDoorC1
import Derived.Test.YthkmhpkoanmbkaaDoorC3
namespace Go.Proofs.YthkmhpkoanmbkaaDoor
open Go.RowKit
set_option linter.unusedVariables false

def absI (n : Int) : Int := (n.natAbs : Int)
theorem absI_pos {n : Int} (h : 0 ≤ n) : absI n = n := by unfold absI; omega
theorem absI_neg {n : Int} (h : n < 0) : absI n = -n := by unfold absI; omega
theorem absI_nonneg (n : Int) : 0 ≤ absI n := by unfold absI; omega
theorem absI_le {n m : Int} (h : -m ≤ n) (h' : n ≤ m) : absI n ≤ m := by unfold absI; omega
/-- A fraction is valid. -/
def vfB (n d : Int) : Bool := inR d 1 1000000000000000000 && (inR n (-1000000000000000000) 1000000000000000000 && (gcdI (absI n) d == 1))
theorem vfB_true {n d : Int} (h : vfB n d = true) : (1 ≤ d ∧ d ≤ 1000000000000000000) ∧ (-1000000000000000000 ≤ n ∧ n ≤ 1000000000000000000) ∧ gcdI (absI n) d = 1 := by
  simp only [vfB, Bool.and_eq_true, beq_iff_eq] at h
  exact ⟨inR_true h.1, inR_true h.2.1, h.2.2⟩

theorem l00Max_abs (n : Int) (w : World) (h0 : -1000000000000000000 ≤ n) (h1 : n ≤ 1000000000000000000) :
    Calls Tryd.prog 36 #[.int .i64 n, .int .i64 (-n)] w fun e w' => e = .returned (.int .i64 (absI n)) ∧ w = w' := by
  by_cases h : -n < n
  · have e : absI n = n := absI_pos (by omega)
    rw [e]; clear e
    go_enter Tryd.func36, Tryd.ntmps36
    go_wp2
    go_ret
    exact ⟨rfl, rfl⟩
  · have e : absI n = -n := by unfold absI; omega
    rw [e]; clear e
    go_enter Tryd.func36, Tryd.ntmps36
    go_wp2
    go_ret
    exact ⟨rfl, rfl⟩
theorem l00Max_of (n m : Int) (w : World) (hm : m = -n) (h0 : -1000000000000000000 ≤ n) (h1 : n ≤ 1000000000000000000) :
    Calls Tryd.prog 36 #[.int .i64 n, .int .i64 m] w fun e w' => e = .returned (.int .i64 (absI n)) ∧ w = w' := by
  subst hm
  exact l00Max_abs n w h0 h1
theorem size_any (n : Int) (w : World) (h0 : -1000000000000000000 ≤ n) (h1 : n ≤ 1000000000000000000) :
    Calls Tryd.prog 32 #[.int .i64 n] w fun e w' => e = .returned (.int .i64 (absI n)) ∧ w = w' := by
  by_cases h : n < 0
  · have e : absI n = -n := absI_neg h
    rw [e]; clear e
    go_enter Tryd.func32, Tryd.ntmps32
    go_wp2
    go_ret
    exact ⟨rfl, rfl⟩
  · have e : absI n = n := absI_pos (by omega)
    rw [e]; clear e
    go_enter Tryd.func32, Tryd.ntmps32
    go_wp2
    go_ret
    exact ⟨rfl, rfl⟩
theorem ValidFraction_any (n d : Int) (w : World) :
    Calls Tryd.prog 12 #[.agg #[.int .i64 n, .int .i64 d]] w fun e w' => e = .returned (.bool (vfB n d)) ∧ Below w.heap.size w w' := by
  cases h1 : inR d 1 1000000000000000000 with
  | false =>
    go_enter Tryd.func12, Tryd.ntmps12
    go_wp2_with fail
    go_quiet ((go_at_call 30; exact quiet_left (inRange_of h1 _)))
    go_wp2
    go_ret
    exact ⟨ret_bool (by simp [vfB, h1]), bw_drewN (bw_alloc (bw_refl _) _) _⟩
  | true =>
    have b1 := inR_true h1
    cases h2 : inR n (-1000000000000000000) 1000000000000000000 with
    | false =>
      go_enter Tryd.func12, Tryd.ntmps12
      go_wp2_with fail
      go_quiet ((go_at_call 30; first | with_reducible exact quiet_left (inRange_of h1 _) | with_reducible exact quiet_left (inRange_of h2 _)))
      go_wp2
      go_ret
      exact ⟨ret_bool (by simp [vfB, h1, h2]), bw_drewN (bw_alloc (bw_refl _) _) _⟩
    | true =>
      have b2 := inR_true h2
      have a0 := absI_nonneg n
      have a1 := absI_le b2.1 b2.2
      go_enter Tryd.func12, Tryd.ntmps12
      go_wp2_with fail
      go_quiet (first | (go_at_call 30; first | with_reducible exact quiet_left (inRange_of h1 _) | with_reducible exact quiet_left (inRange_of h2 _)) | (go_at_call 32; exact quiet_left (size_any n _ b2.1 b2.2)) | (go_at_call 31; exact Calls.quiet_of (divisor_any (absI n) d _ a0 (by omega) (by omega) (by omega))))
      go_wp2
      go_ret
      exact ⟨ret_bool (by simp [vfB, h1, h2]), bw_drewN (bw_alloc (bw_refl _) _) _⟩
end Go.Proofs.YthkmhpkoanmbkaaDoor
