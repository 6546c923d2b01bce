/-
  Contracts of the range tests, the validity tests of a congruence and of a register, and the copies of the argument structures. No condition.
-/
import Derived.Test.YtkepnjdomlfpdaaKit
namespace Go.Proofs.Ytkepnjdomlfpdaa
open Go.RowKit
set_option linter.unusedVariables false

theorem inRange_any (n lo hi : Int) (w : World) :
    Calls Try.prog 55 #[.int .i64 n, .int .i64 lo, .int .i64 hi] w fun e w' => e = .returned (.bool (inR n lo hi)) ∧ w = w' := by
  unfold inR
  by_cases h1 : lo ≤ n
  · go_enter Try.func55, Try.ntmps55
    go_wp2
    go_ret
    exact ⟨ret_bool (by simp [h1]), rfl⟩
  · go_enter Try.func55, Try.ntmps55
    go_wp2
    go_ret
    exact ⟨ret_bool (by rw [decide_eq_false (by omega)]; rfl), rfl⟩
theorem l00In_any (n lo hi : Int) (w : World) :
    Calls Try.prog 54 #[.int .i64 n, .int .i64 lo, .int .i64 hi] w fun e w' => e = .returned (.bool (inR n lo hi)) ∧ w = w' := by
  unfold inR
  by_cases h1 : lo ≤ n
  · go_enter Try.func54, Try.ntmps54
    go_wp2
    go_ret
    exact ⟨ret_bool (by simp [h1]), rfl⟩
  · go_enter Try.func54, Try.ntmps54
    go_wp2
    go_ret
    exact ⟨ret_bool (by rw [decide_eq_false (by omega)]; rfl), rfl⟩
theorem l00In_of {n lo hi : Int} {b : Bool} (h : inR n lo hi = b) (w : World) :
    Calls Try.prog 54 #[.int .i64 n, .int .i64 lo, .int .i64 hi] w fun e w' => e = .returned (.bool b) ∧ w = w' := h ▸ l00In_any n lo hi w

/-- A congruence is valid. -/
def vcB (m f a : Int) : Bool := inR m 2 100000 && (inR f 0 (m - 1) && inR a 0 (m - 1))

/-- A register is valid. -/
def vrB (wd tp : Int) : Bool := inR wd 0 16 && inR tp 0 (sh wd - 1)

theorem inRange_of {n lo hi : Int} {b : Bool} (h : inR n lo hi = b) (w : World) :
    Calls Try.prog 55 #[.int .i64 n, .int .i64 lo, .int .i64 hi] w fun e w' => e = .returned (.bool b) ∧ w = w' := h ▸ inRange_any n lo hi w
theorem ValidRegister_any (wd tp : Int) (w : World) :
    Calls Try.prog 64 #[.agg #[.int .i64 wd, .int .i64 tp]] w fun e w' => e = .returned (.bool (vrB wd tp)) ∧ Below w.heap.size w w' := by
  cases h1 : inR wd 0 16 with
  | false =>
    go_enter Try.func64, Try.ntmps64
    go_wp2_with fail
    go_quiet ((go_at_call 55; first | with_reducible exact quiet_left (inRange_of h1 _)))
    go_wp2
    go_ret
    exact ⟨ret_bool (by simp [vrB, h1]), bw_drewN (bw_alloc (bw_refl _) _) _⟩
  | true =>
    have b1 := inR_true h1
    have s1 := sh_pos wd
    have s2 : sh wd ≤ 65536 := sh_le b1.2
    have hs := sh_wrap (n := wd) (by omega)
    go_enter Try.func64, Try.ntmps64
    go_wp2_with fail
    go_quiet ((go_at_call 55; first | with_reducible exact quiet_left (inRange_of h1 _) | with_reducible exact quiet_left (inRange_any _ _ _ _)))
    go_wp2
    go_ret
    exact ⟨ret_bool (by simp [vrB, h1]), bw_drewN (bw_alloc (bw_refl _) _) _⟩
theorem l02State_any (wd st : Int) (w : World) (h0 : 0 ≤ wd) (h1 : wd ≤ 16) :
    Calls Try.prog 62 #[.int .i64 wd, .int .i64 st] w fun e w' => e = .returned (.bool (inR st 0 (sh wd - 1))) ∧ w = w' := by
  have s1 := sh_pos wd
  have s2 : sh wd ≤ 65536 := sh_le h1
  have hs := sh_wrap (n := wd) (by omega)
  go_enter Try.func62, Try.ntmps62
  go_wp2_with (go_at_call 54; refine (l00In_any _ _ _ _).mono ?_; rintro e w' ⟨rfl, rfl⟩)
  go_ret
  exact ⟨rfl, rfl⟩
theorem l02Is_any (wd tp : Int) (b : Nat) (w : World) (c0 : w.cell? ⟨b, 0, none⟩ = some (.int .i64 wd)) (c1 : w.cell? ⟨b, 1, none⟩ = some (.int .i64 tp)) :
    Calls Try.prog 61 #[.pointer (some ⟨b, 0, none⟩)] w fun e w' => e = .returned (.bool (vrB wd tp)) ∧ ∃ n, w' = w.drewN n := by
  cases h1 : inR wd 0 16 with
  | false =>
    go_enter Try.func61, Try.ntmps61
    go_wp2_with fail
    go_quiet ((go_at_call 54; exact quiet_left (l00In_of h1 _)))
    go_wp2
    go_ret
    exact ⟨ret_bool (by simp [vrB, h1]), _, rfl⟩
  | true =>
    have b1 := inR_true h1
    go_enter Try.func61, Try.ntmps61
    go_wp2_with fail
    go_quiet (first | (go_at_call 54; exact quiet_left (l00In_of h1 _)) | (go_at_call 62; exact quiet_left (l02State_any wd tp _ b1.1 b1.2)))
    go_wp2
    go_ret
    exact ⟨ret_bool (by simp [vrB, h1]), _, rfl⟩
theorem toRegister_any (wd tp : Int) (w : World) :
    Calls Try.prog 22 #[.agg #[.int .i64 wd, .int .i64 tp]] w fun e w' => e = .returned (.agg #[.int .i64 wd, .int .i64 tp]) ∧ Below w.heap.size w w' := by
  go_enter Try.func22, Try.ntmps22
  go_wp2
  refine bodyPost_ret (v := .agg #[.int .i64 wd, .int .i64 tp]) (by simp [results, Try.results22, go_sem]) rfl ⟨rfl, ?_⟩
  exact bw_alloc (bw_alloc (bw_alloc (bw_refl _) _) _) _
end Go.Proofs.Ytkepnjdomlfpdaa
