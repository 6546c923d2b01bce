/-
  Contracts of the range tests, the validity tests of a congruence and of a register, and the copies of the argument structures. No condition.
-/
import Derived.Test.YtecojhgoeackcabKit
namespace Go.Proofs.Ytecojhgoeackcab
open Go.RowKit
set_option linter.unusedVariables false

theorem inRange_any (n lo hi : Int) (w : World) :
    Calls Try.prog 35 #[.int .i64 n, .int .i64 lo, .int .i64 hi] w fun e w' => e = .returned (.bool (inR n lo hi)) ∧ w = w' := by
  unfold inR
  by_cases h1 : lo ≤ n
  · go_enter Try.func35, Try.ntmps35
    go_wp2
    go_ret
    exact ⟨ret_bool (by simp [h1]), rfl⟩
  · go_enter Try.func35, Try.ntmps35
    go_wp2
    go_ret
    exact ⟨ret_bool (by rw [decide_eq_false (by omega)]; rfl), rfl⟩
theorem l00In_any (n lo hi : Int) (w : World) :
    Calls Try.prog 39 #[.int .i64 n, .int .i64 lo, .int .i64 hi] w fun e w' => e = .returned (.bool (inR n lo hi)) ∧ w = w' := by
  unfold inR
  by_cases h1 : lo ≤ n
  · go_enter Try.func39, Try.ntmps39
    go_wp2
    go_ret
    exact ⟨ret_bool (by simp [h1]), rfl⟩
  · go_enter Try.func39, Try.ntmps39
    go_wp2
    go_ret
    exact ⟨ret_bool (by rw [decide_eq_false (by omega)]; rfl), rfl⟩
theorem l00In_of {n lo hi : Int} {b : Bool} (h : inR n lo hi = b) (w : World) :
    Calls Try.prog 39 #[.int .i64 n, .int .i64 lo, .int .i64 hi] w fun e w' => e = .returned (.bool b) ∧ w = w' := h ▸ l00In_any n lo hi w

/-- A congruence is valid. -/
def vcB (m f a : Int) : Bool := inR m 2 100000 && (inR f 0 (m - 1) && inR a 0 (m - 1))

theorem ValidCongruence_any (m f a : Int) (w : World) :
    Calls Try.prog 34 #[.agg #[.int .i64 m, .int .i64 f, .int .i64 a]] w fun e w' => e = .returned (.bool (vcB m f a)) ∧ Below w.heap.size w w' := by
  cases h1 : inR m 2 100000 with
  | false =>
    go_enter Try.func34, Try.ntmps34
    go_wp2_with (go_at_call 35; refine (inRange_any _ _ _ _).mono ?_; rintro e w' ⟨rfl, rfl⟩)
    go_ret
    exact ⟨ret_bool (by simp [vcB, h1]), (Below.refl _ _).alloc (Nat.le_refl _) _⟩
  | true =>
    have b1 := inR_true h1
    cases h2 : inR f 0 (m-1) with
    | false =>
      go_enter Try.func34, Try.ntmps34
      go_wp2_with (go_at_call 35; refine (inRange_any _ _ _ _).mono ?_; rintro e w' ⟨rfl, rfl⟩)
      go_ret
      exact ⟨ret_bool (by simp [vcB, h1, h2]), (Below.refl _ _).alloc (Nat.le_refl _) _⟩
    | true =>
      go_enter Try.func34, Try.ntmps34
      go_wp2_with (go_at_call 35; refine (inRange_any _ _ _ _).mono ?_; rintro e w' ⟨rfl, rfl⟩)
      go_ret
      exact ⟨ret_bool (by simp [vcB, h1, h2]), (Below.refl _ _).alloc (Nat.le_refl _) _⟩
theorem l03Is_any (m f a : Int) (b : Nat) (w : World) (c0 : w.cell? ⟨b, 0, none⟩ = some (.int .i64 m)) (c1 : w.cell? ⟨b, 1, none⟩ = some (.int .i64 f)) (c2 : w.cell? ⟨b, 2, none⟩ = some (.int .i64 a)) :
    Calls Try.prog 61 #[.pointer (some ⟨b, 0, none⟩)] w fun e w' => e = .returned (.bool (vcB m f a)) ∧ ∃ n, w' = w.drewN n := by
  cases h1 : inR m 2 100000 with
  | false =>
    go_enter Try.func61, Try.ntmps61
    go_wp2_with fail
    go_quiet ((go_at_call 39; exact quiet_left (l00In_of h1 _)))
    go_wp2
    go_ret
    exact ⟨ret_bool (by simp [vcB, h1]), _, rfl⟩
  | true =>
    have b1 := inR_true h1
    cases h2 : inR f 0 (m-1) with
    | false =>
      go_enter Try.func61, Try.ntmps61
      go_wp2_with fail
      go_quiet ((go_at_call 39; first | with_reducible exact quiet_left (l00In_of h1 _) | with_reducible exact quiet_left (l00In_of h2 _)))
      go_wp2
      go_ret
      exact ⟨ret_bool (by simp [vcB, h1, h2]), _, rfl⟩
    | true =>
      go_enter Try.func61, Try.ntmps61
      go_wp2_with fail
      go_quiet ((go_at_call 39; first | with_reducible exact quiet_left (l00In_of h1 _) | with_reducible exact quiet_left (l00In_of h2 _) | with_reducible exact quiet_left (l00In_any _ _ _ _)))
      go_wp2
      go_ret
      exact ⟨ret_bool (by simp [vcB, h1, h2]), _, rfl⟩
theorem toCongruence_any (m f a : Int) (w : World) :
    Calls Try.prog 21 #[.agg #[.int .i64 m, .int .i64 f, .int .i64 a]] w fun e w' => e = .returned (.agg #[.int .i64 m, .int .i64 f, .int .i64 a]) ∧ Below w.heap.size w w' := by
  go_enter Try.func21, Try.ntmps21
  go_wp2
  refine bodyPost_ret (v := .agg #[.int .i64 m, .int .i64 f, .int .i64 a]) (by simp [results, Try.results21, go_sem]) rfl ⟨rfl, ?_⟩
  exact bw_alloc (bw_alloc (bw_alloc (bw_refl _) _) _) _
/-- A register is valid. -/
def vrB (wd tp : Int) : Bool := inR wd 0 16 && inR tp 0 (sh wd - 1)

theorem inRange_of {n lo hi : Int} {b : Bool} (h : inR n lo hi = b) (w : World) :
    Calls Try.prog 35 #[.int .i64 n, .int .i64 lo, .int .i64 hi] w fun e w' => e = .returned (.bool b) ∧ w = w' := h ▸ inRange_any n lo hi w
theorem ValidRegister_any (wd tp : Int) (w : World) :
    Calls Try.prog 30 #[.agg #[.int .i64 wd, .int .i64 tp]] w fun e w' => e = .returned (.bool (vrB wd tp)) ∧ Below w.heap.size w w' := by
  cases h1 : inR wd 0 16 with
  | false =>
    go_enter Try.func30, Try.ntmps30
    go_wp2_with fail
    go_quiet ((go_at_call 35; first | with_reducible exact quiet_left (inRange_of h1 _)))
    go_wp2
    go_ret
    exact ⟨ret_bool (by simp [vrB, h1]), bw_drewN (bw_alloc (bw_refl _) _) _⟩
  | true =>
    have b1 := inR_true h1
    have s1 := sh_pos wd
    have s2 : sh wd ≤ 65536 := sh_le b1.2
    have hs := sh_wrap (n := wd) (by omega)
    go_enter Try.func30, Try.ntmps30
    go_wp2_with fail
    go_quiet ((go_at_call 35; first | with_reducible exact quiet_left (inRange_of h1 _) | with_reducible exact quiet_left (inRange_any _ _ _ _)))
    go_wp2
    go_ret
    exact ⟨ret_bool (by simp [vrB, h1]), bw_drewN (bw_alloc (bw_refl _) _) _⟩
theorem l02State_any (wd st : Int) (w : World) (h0 : 0 ≤ wd) (h1 : wd ≤ 16) :
    Calls Try.prog 50 #[.int .i64 wd, .int .i64 st] w fun e w' => e = .returned (.bool (inR st 0 (sh wd - 1))) ∧ w = w' := by
  have s1 := sh_pos wd
  have s2 : sh wd ≤ 65536 := sh_le h1
  have hs := sh_wrap (n := wd) (by omega)
  go_enter Try.func50, Try.ntmps50
  go_wp2_with (go_at_call 39; refine (l00In_any _ _ _ _).mono ?_; rintro e w' ⟨rfl, rfl⟩)
  go_ret
  exact ⟨rfl, rfl⟩
theorem l02Is_any (wd tp : Int) (b : Nat) (w : World) (c0 : w.cell? ⟨b, 0, none⟩ = some (.int .i64 wd)) (c1 : w.cell? ⟨b, 1, none⟩ = some (.int .i64 tp)) :
    Calls Try.prog 28 #[.pointer (some ⟨b, 0, none⟩)] w fun e w' => e = .returned (.bool (vrB wd tp)) ∧ ∃ n, w' = w.drewN n := by
  cases h1 : inR wd 0 16 with
  | false =>
    go_enter Try.func28, Try.ntmps28
    go_wp2_with fail
    go_quiet ((go_at_call 39; exact quiet_left (l00In_of h1 _)))
    go_wp2
    go_ret
    exact ⟨ret_bool (by simp [vrB, h1]), _, rfl⟩
  | true =>
    have b1 := inR_true h1
    go_enter Try.func28, Try.ntmps28
    go_wp2_with fail
    go_quiet (first | (go_at_call 39; exact quiet_left (l00In_of h1 _)) | (go_at_call 50; exact quiet_left (l02State_any wd tp _ b1.1 b1.2)))
    go_wp2
    go_ret
    exact ⟨ret_bool (by simp [vrB, h1]), _, rfl⟩
theorem toRegister_any (wd tp : Int) (w : World) :
    Calls Try.prog 10 #[.agg #[.int .i64 wd, .int .i64 tp]] w fun e w' => e = .returned (.agg #[.int .i64 wd, .int .i64 tp]) ∧ Below w.heap.size w w' := by
  go_enter Try.func10, Try.ntmps10
  go_wp2
  refine bodyPost_ret (v := .agg #[.int .i64 wd, .int .i64 tp]) (by simp [results, Try.results10, go_sem]) rfl ⟨rfl, ?_⟩
  exact bw_alloc (bw_alloc (bw_alloc (bw_refl _) _) _) _
end Go.Proofs.Ytecojhgoeackcab
