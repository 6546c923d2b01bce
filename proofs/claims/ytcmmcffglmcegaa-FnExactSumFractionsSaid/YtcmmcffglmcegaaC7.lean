/-
  Contracts of the validity of a fraction. No condition beyond int64's bounds.
-/
import Derived.Test.YtcmmcffglmcegaaC1
import Derived.Test.YtcmmcffglmcegaaC3
namespace Go.Proofs.Ytcmmcffglmcegaa
open Go.RowKit
set_option linter.unusedVariables false

def absI (n : Int) : Int := (n.natAbs : Int)
theorem absI_pos {n : Int} (h : 0 ≤ n) : absI n = n := by unfold absI; omega
theorem absI_neg {n : Int} (h : n < 0) : absI n = -n := by unfold absI; omega
theorem absI_nonneg (n : Int) : 0 ≤ absI n := by unfold absI; omega
theorem absI_le {n m : Int} (h : -m ≤ n) (h' : n ≤ m) : absI n ≤ m := by unfold absI; omega
/-- A fraction is valid. -/
def vfB (n d : Int) : Bool := inR d 1 1000000000000000000 && (inR n (-1000000000000000000) 1000000000000000000 && (gcdI (absI n) d == 1))
theorem vfB_true {n d : Int} (h : vfB n d = true) : (1 ≤ d ∧ d ≤ 1000000000000000000) ∧ (-1000000000000000000 ≤ n ∧ n ≤ 1000000000000000000) ∧ gcdI (absI n) d = 1 := by
  simp only [vfB, Bool.and_eq_true, beq_iff_eq] at h
  exact ⟨inR_true h.1, inR_true h.2.1, h.2.2⟩

theorem l00Max_abs (n : Int) (w : World) (h0 : -1000000000000000000 ≤ n) (h1 : n ≤ 1000000000000000000) :
    Calls Try.prog 44 #[.int .i64 n, .int .i64 (-n)] w fun e w' => e = .returned (.int .i64 (absI n)) ∧ w = w' := by
  by_cases h : -n < n
  · have e : absI n = n := absI_pos (by omega)
    rw [e]; clear e
    go_enter Try.func44, Try.ntmps44
    go_wp2
    go_ret
    exact ⟨rfl, rfl⟩
  · have e : absI n = -n := by unfold absI; omega
    rw [e]; clear e
    go_enter Try.func44, Try.ntmps44
    go_wp2
    go_ret
    exact ⟨rfl, rfl⟩
theorem l00Max_of (n m : Int) (w : World) (hm : m = -n) (h0 : -1000000000000000000 ≤ n) (h1 : n ≤ 1000000000000000000) :
    Calls Try.prog 44 #[.int .i64 n, .int .i64 m] w fun e w' => e = .returned (.int .i64 (absI n)) ∧ w = w' := by
  subst hm
  exact l00Max_abs n w h0 h1
theorem size_any (n : Int) (w : World) (h0 : -1000000000000000000 ≤ n) (h1 : n ≤ 1000000000000000000) :
    Calls Try.prog 55 #[.int .i64 n] w fun e w' => e = .returned (.int .i64 (absI n)) ∧ w = w' := by
  by_cases h : n < 0
  · have e : absI n = -n := absI_neg h
    rw [e]; clear e
    go_enter Try.func55, Try.ntmps55
    go_wp2
    go_ret
    exact ⟨rfl, rfl⟩
  · have e : absI n = n := absI_pos (by omega)
    rw [e]; clear e
    go_enter Try.func55, Try.ntmps55
    go_wp2
    go_ret
    exact ⟨rfl, rfl⟩
theorem l01FIs_any (n d : Int) (w : World) :
    Calls Try.prog 26 #[.agg #[.int .i64 n, .int .i64 d]] w fun e w' => e = .returned (.bool (vfB n d)) ∧ Below w.heap.size w w' := by
  cases h1 : inR d 1 1000000000000000000 with
  | false =>
    go_enter Try.func26, Try.ntmps26
    go_wp2_with fail
    go_quiet ((go_at_call 42; exact quiet_left (l00In_of h1 _)))
    go_wp2
    go_ret
    exact ⟨ret_bool (by simp [vfB, h1]), bw_drewN (bw_alloc (bw_refl _) _) _⟩
  | true =>
    have b1 := inR_true h1
    cases h2 : inR n (-1000000000000000000) 1000000000000000000 with
    | false =>
      go_enter Try.func26, Try.ntmps26
      go_wp2_with fail
      go_quiet ((go_at_call 42; first | with_reducible exact quiet_left (l00In_of h1 _) | with_reducible exact quiet_left (l00In_of h2 _)))
      go_wp2
      go_ret
      exact ⟨ret_bool (by simp [vfB, h1, h2]), bw_drewN (bw_alloc (bw_refl _) _) _⟩
    | true =>
      have b2 := inR_true h2
      have a0 := absI_nonneg n
      have a1 := absI_le b2.1 b2.2
      go_enter Try.func26, Try.ntmps26
      go_wp2_with fail
      go_quiet (first | (go_at_call 42; first | with_reducible exact quiet_left (l00In_of h1 _) | with_reducible exact quiet_left (l00In_of h2 _)) | (go_at_call 44; exact quiet_left (l00Max_abs n _ b2.1 b2.2)) | (go_at_call 43; exact quiet_left (l01Gcd_any (absI n) d _ a0 (by omega) (by omega) (by omega))))
      go_wp2
      go_ret
      exact ⟨ret_bool (by simp [vfB, h1, h2]), bw_drewN (bw_alloc (bw_refl _) _) _⟩
theorem ValidFraction_any (n d : Int) (w : World) :
    Calls Try.prog 53 #[.agg #[.int .i64 n, .int .i64 d]] w fun e w' => e = .returned (.bool (vfB n d)) ∧ Below w.heap.size w w' := by
  cases h1 : inR d 1 1000000000000000000 with
  | false =>
    go_enter Try.func53, Try.ntmps53
    go_wp2_with fail
    go_quiet ((go_at_call 70; exact quiet_left (inRange_of h1 _)))
    go_wp2
    go_ret
    exact ⟨ret_bool (by simp [vfB, h1]), bw_drewN (bw_alloc (bw_refl _) _) _⟩
  | true =>
    have b1 := inR_true h1
    cases h2 : inR n (-1000000000000000000) 1000000000000000000 with
    | false =>
      go_enter Try.func53, Try.ntmps53
      go_wp2_with fail
      go_quiet ((go_at_call 70; first | with_reducible exact quiet_left (inRange_of h1 _) | with_reducible exact quiet_left (inRange_of h2 _)))
      go_wp2
      go_ret
      exact ⟨ret_bool (by simp [vfB, h1, h2]), bw_drewN (bw_alloc (bw_refl _) _) _⟩
    | true =>
      have b2 := inR_true h2
      have a0 := absI_nonneg n
      have a1 := absI_le b2.1 b2.2
      go_enter Try.func53, Try.ntmps53
      go_wp2_with fail
      go_quiet (first | (go_at_call 70; first | with_reducible exact quiet_left (inRange_of h1 _) | with_reducible exact quiet_left (inRange_of h2 _)) | (go_at_call 55; exact quiet_left (size_any n _ b2.1 b2.2)) | (go_at_call 71; exact Calls.quiet_of (divisor_any (absI n) d _ a0 (by omega) (by omega) (by omega))))
      go_wp2
      go_ret
      exact ⟨ret_bool (by simp [vfB, h1, h2]), bw_drewN (bw_alloc (bw_refl _) _) _⟩
theorem toFraction_any (n d : Int) (w : World) :
    Calls Try.prog 10 #[.agg #[.int .i64 n, .int .i64 d]] w fun e w' => e = .returned (.agg #[.int .i64 n, .int .i64 d]) ∧ Below w.heap.size w w' := by
  go_enter Try.func10, Try.ntmps10
  go_wp2
  refine bodyPost_ret (v := .agg #[.int .i64 n, .int .i64 d]) (by simp [results, Try.results10, go_sem]) rfl ⟨rfl, ?_⟩
  exact bw_alloc (bw_alloc (bw_alloc (bw_refl _) _) _) _
end Go.Proofs.Ytcmmcffglmcegaa
