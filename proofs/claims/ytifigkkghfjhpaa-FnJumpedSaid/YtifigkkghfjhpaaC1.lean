/-
  Contracts of the range tests, the validity tests of a congruence and of a register, and the copies of the argument structures. No condition.
-/
import Derived.Test.YtifigkkghfjhpaaKit
namespace Go.Proofs.Ytifigkkghfjhpaa
open Go.RowKit
set_option linter.unusedVariables false

theorem inRange_any (n lo hi : Int) (w : World) :
    Calls Try.prog 49 #[.int .i64 n, .int .i64 lo, .int .i64 hi] w fun e w' => e = .returned (.bool (inR n lo hi)) ∧ w = w' := by
  unfold inR
  by_cases h1 : lo ≤ n
  · go_enter Try.func49, Try.ntmps49
    go_wp2
    go_ret
    exact ⟨ret_bool (by simp [h1]), rfl⟩
  · go_enter Try.func49, Try.ntmps49
    go_wp2
    go_ret
    exact ⟨ret_bool (by rw [decide_eq_false (by omega)]; rfl), rfl⟩
theorem l00In_any (n lo hi : Int) (w : World) :
    Calls Try.prog 47 #[.int .i64 n, .int .i64 lo, .int .i64 hi] w fun e w' => e = .returned (.bool (inR n lo hi)) ∧ w = w' := by
  unfold inR
  by_cases h1 : lo ≤ n
  · go_enter Try.func47, Try.ntmps47
    go_wp2
    go_ret
    exact ⟨ret_bool (by simp [h1]), rfl⟩
  · go_enter Try.func47, Try.ntmps47
    go_wp2
    go_ret
    exact ⟨ret_bool (by rw [decide_eq_false (by omega)]; rfl), rfl⟩
theorem l00In_of {n lo hi : Int} {b : Bool} (h : inR n lo hi = b) (w : World) :
    Calls Try.prog 47 #[.int .i64 n, .int .i64 lo, .int .i64 hi] w fun e w' => e = .returned (.bool b) ∧ w = w' := h ▸ l00In_any n lo hi w

/-- A congruence is valid. -/
def vcB (m f a : Int) : Bool := inR m 2 100000 && (inR f 0 (m - 1) && inR a 0 (m - 1))

theorem ValidCongruence_any (m f a : Int) (w : World) :
    Calls Try.prog 60 #[.agg #[.int .i64 m, .int .i64 f, .int .i64 a]] w fun e w' => e = .returned (.bool (vcB m f a)) ∧ Below w.heap.size w w' := by
  cases h1 : inR m 2 100000 with
  | false =>
    go_enter Try.func60, Try.ntmps60
    go_wp2_with (go_at_call 49; refine (inRange_any _ _ _ _).mono ?_; rintro e w' ⟨rfl, rfl⟩)
    go_ret
    exact ⟨ret_bool (by simp [vcB, h1]), (Below.refl _ _).alloc (Nat.le_refl _) _⟩
  | true =>
    have b1 := inR_true h1
    cases h2 : inR f 0 (m-1) with
    | false =>
      go_enter Try.func60, Try.ntmps60
      go_wp2_with (go_at_call 49; refine (inRange_any _ _ _ _).mono ?_; rintro e w' ⟨rfl, rfl⟩)
      go_ret
      exact ⟨ret_bool (by simp [vcB, h1, h2]), (Below.refl _ _).alloc (Nat.le_refl _) _⟩
    | true =>
      go_enter Try.func60, Try.ntmps60
      go_wp2_with (go_at_call 49; refine (inRange_any _ _ _ _).mono ?_; rintro e w' ⟨rfl, rfl⟩)
      go_ret
      exact ⟨ret_bool (by simp [vcB, h1, h2]), (Below.refl _ _).alloc (Nat.le_refl _) _⟩
theorem l03Is_any (m f a : Int) (b : Nat) (w : World) (c0 : w.cell? ⟨b, 0, none⟩ = some (.int .i64 m)) (c1 : w.cell? ⟨b, 1, none⟩ = some (.int .i64 f)) (c2 : w.cell? ⟨b, 2, none⟩ = some (.int .i64 a)) :
    Calls Try.prog 58 #[.pointer (some ⟨b, 0, none⟩)] w fun e w' => e = .returned (.bool (vcB m f a)) ∧ ∃ n, w' = w.drewN n := by
  cases h1 : inR m 2 100000 with
  | false =>
    go_enter Try.func58, Try.ntmps58
    go_wp2_with fail
    go_quiet ((go_at_call 47; exact quiet_left (l00In_of h1 _)))
    go_wp2
    go_ret
    exact ⟨ret_bool (by simp [vcB, h1]), _, rfl⟩
  | true =>
    have b1 := inR_true h1
    cases h2 : inR f 0 (m-1) with
    | false =>
      go_enter Try.func58, Try.ntmps58
      go_wp2_with fail
      go_quiet ((go_at_call 47; first | with_reducible exact quiet_left (l00In_of h1 _) | with_reducible exact quiet_left (l00In_of h2 _)))
      go_wp2
      go_ret
      exact ⟨ret_bool (by simp [vcB, h1, h2]), _, rfl⟩
    | true =>
      go_enter Try.func58, Try.ntmps58
      go_wp2_with fail
      go_quiet ((go_at_call 47; first | with_reducible exact quiet_left (l00In_of h1 _) | with_reducible exact quiet_left (l00In_of h2 _) | with_reducible exact quiet_left (l00In_any _ _ _ _)))
      go_wp2
      go_ret
      exact ⟨ret_bool (by simp [vcB, h1, h2]), _, rfl⟩
theorem toCongruence_any (m f a : Int) (w : World) :
    Calls Try.prog 20 #[.agg #[.int .i64 m, .int .i64 f, .int .i64 a]] w fun e w' => e = .returned (.agg #[.int .i64 m, .int .i64 f, .int .i64 a]) ∧ Below w.heap.size w w' := by
  go_enter Try.func20, Try.ntmps20
  go_wp2
  refine bodyPost_ret (v := .agg #[.int .i64 m, .int .i64 f, .int .i64 a]) (by simp [results, Try.results20, go_sem]) rfl ⟨rfl, ?_⟩
  exact bw_alloc (bw_alloc (bw_alloc (bw_refl _) _) _) _
/-- A register is valid. -/
def vrB (wd tp : Int) : Bool := inR wd 0 16 && inR tp 0 (sh wd - 1)

theorem inRange_of {n lo hi : Int} {b : Bool} (h : inR n lo hi = b) (w : World) :
    Calls Try.prog 49 #[.int .i64 n, .int .i64 lo, .int .i64 hi] w fun e w' => e = .returned (.bool b) ∧ w = w' := h ▸ inRange_any n lo hi w
end Go.Proofs.Ytifigkkghfjhpaa
