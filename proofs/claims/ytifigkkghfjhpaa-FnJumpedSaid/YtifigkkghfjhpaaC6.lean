/-
  Contracts of a congruence's step and of a register's polynomial. Conditions stand in each contract (valid arguments).
-/
import Derived.Test.YtifigkkghfjhpaaC1
import Derived.Test.YtifigkkghfjhpaaBits
namespace Go.Proofs.Ytifigkkghfjhpaa
open Go.RowKit
set_option linter.unusedVariables false

theorem vcB_true {m f a : Int} (h : vcB m f a = true) : (2 ≤ m ∧ m ≤ 100000) ∧ (0 ≤ f ∧ f ≤ m - 1) ∧ (0 ≤ a ∧ a ≤ m - 1) := by
  simp only [vcB, Bool.and_eq_true] at h
  exact ⟨inR_true h.1, inR_true h.2.1, inR_true h.2.2⟩
theorem vrB_true {wd tp : Int} (h : vrB wd tp = true) : (0 ≤ wd ∧ wd ≤ 16) ∧ (0 ≤ tp ∧ tp ≤ sh wd - 1) := by
  simp only [vrB, Bool.and_eq_true] at h
  exact ⟨inR_true h.1, inR_true h.2⟩
/-- A state of a valid congruence. -/
def nsB (m f a x : Int) : Bool := vcB m f a && inR x 0 (m - 1)
/-- The state behind x. -/
def stp (m f a x : Int) : Int := (f * x + a) % m
theorem stp_bd {m f a x : Int} (hm : 2 ≤ m) : 0 ≤ stp m f a x ∧ stp m f a x ≤ m - 1 := by
  have h1 := Int.emod_nonneg (f * x + a) (show m ≠ 0 by omega)
  have h2 := Int.emod_lt_of_pos (f * x + a) (show 0 < m by omega)
  unfold stp; omega
theorem mul_bd {m f x : Int} (hm : m ≤ 100000) (f0 : 0 ≤ f) (f1 : f ≤ m - 1) (x0 : 0 ≤ x) (x1 : x ≤ m - 1) : 0 ≤ f * x ∧ f * x ≤ 9999800001 :=
  ⟨Int.mul_nonneg f0 x0, Int.le_trans (Int.mul_le_mul (show f ≤ 99999 by omega) (show x ≤ 99999 by omega) x0 (by omega)) (by omega)⟩
def nsV (m f a x : Int) : Int := if nsB m f a x = true then stp m f a x else 0

theorem l03Both_any (m f a x : Int) (b : Nat) (w : World) (c0 : w.cell? ⟨b, 0, none⟩ = some (.int .i64 m)) (c1 : w.cell? ⟨b, 1, none⟩ = some (.int .i64 f)) (c2 : w.cell? ⟨b, 2, none⟩ = some (.int .i64 a)) :
    Calls Try.prog 52 #[.pointer (some ⟨b, 0, none⟩), .int .i64 x] w fun e w' => e = .returned (.bool (nsB m f a x)) ∧ ∃ n, w' = w.drewN n := by
  cases h1 : vcB m f a with
  | false =>
    go_enter Try.func52, Try.ntmps52
    go_wp2_with (go_at_call 58; refine (l03Is_any m f a _ _ c0 c1 c2).mono ?_; rintro e w' ⟨rfl, n, rfl⟩)
    go_ret
    exact ⟨ret_bool (by simp [nsB, h1]), _, rfl⟩
  | true =>
    obtain ⟨b1, b2, b3⟩ := vcB_true h1
    go_enter Try.func52, Try.ntmps52
    go_wp2_with (first | (go_at_call 58; refine (l03Is_any m f a _ _ c0 c1 c2).mono ?_; rintro e w' ⟨rfl, n, rfl⟩) | (go_at_call 47; refine (l00In_any _ _ _ _).mono ?_; rintro e w' ⟨rfl, rfl⟩))
    go_ret
    exact ⟨ret_bool (by simp [nsB, h1]), _, rfl⟩
theorem l03Step_any (m f a x : Int) (b : Nat) (w : World) (c0 : w.cell? ⟨b, 0, none⟩ = some (.int .i64 m)) (c1 : w.cell? ⟨b, 1, none⟩ = some (.int .i64 f)) (c2 : w.cell? ⟨b, 2, none⟩ = some (.int .i64 a))
    (hv : nsB m f a x = true) :
    Calls Try.prog 54 #[.pointer (some ⟨b, 0, none⟩), .int .i64 x] w fun e w' => e = .returned (.int .i64 (stp m f a x)) ∧ ∃ n, w' = w.drewN n := by
  simp only [nsB, Bool.and_eq_true] at hv
  obtain ⟨b1, b2, b3⟩ := vcB_true hv.1
  have b4 := inR_true hv.2
  have hp := mul_bd b1.2 b2.1 b2.2 b4.1 b4.2
  clear hv
  go_enter Try.func54, Try.ntmps54
  go_wp2_with fail
  go_quiet (fail)
  go_wp2
  go_ret
  exact ⟨rfl, _, rfl⟩
theorem isState_any (m f a x : Int) (w : World) :
    Calls Try.prog 55 #[.agg #[.int .i64 m, .int .i64 f, .int .i64 a], .int .i64 x] w fun e w' => e = .returned (.bool (nsB m f a x)) ∧ Below w.heap.size w w' := by
  cases h1 : vcB m f a with
  | false =>
    go_enter Try.func55, Try.ntmps55
    go_wp2_with fail
    refine (ValidCongruence_any m f a _).mono ?_
    rintro e w1 ⟨rfl, hb1⟩
    go_wp2
    go_ret
    exact ⟨ret_bool (by simp [nsB, h1]), bw_call (bw_alloc (bw_refl _) _) hb1⟩
  | true =>
    obtain ⟨b1, b2, b3⟩ := vcB_true h1
    go_enter Try.func55, Try.ntmps55
    go_wp2_with fail
    refine (ValidCongruence_any m f a _).mono ?_
    rintro e w1 ⟨rfl, hb1⟩
    have c0 := cell_new hb1 0 rfl
    go_wp2_with (go_at_call 49; refine (inRange_any _ _ _ _).mono ?_; rintro e w' ⟨rfl, rfl⟩)
    go_ret
    exact ⟨ret_bool (by simp [nsB, h1]), bw_call (bw_alloc (bw_refl _) _) hb1⟩
theorem step_any (m f a x : Int) (w : World) (hv : nsB m f a x = true) :
    Calls Try.prog 57 #[.agg #[.int .i64 m, .int .i64 f, .int .i64 a], .int .i64 x] w fun e w' => e = .returned (.int .i64 (stp m f a x)) ∧ Below w.heap.size w w' := by
  simp only [nsB, Bool.and_eq_true] at hv
  obtain ⟨b1, b2, b3⟩ := vcB_true hv.1
  have b4 := inR_true hv.2
  have hp := mul_bd b1.2 b2.1 b2.2 b4.1 b4.2
  clear hv
  go_enter Try.func57, Try.ntmps57
  go_wp2
  go_ret
  exact ⟨rfl, bw_alloc (bw_refl _) _⟩
theorem NextState_any (m f a x : Int) (w : World) :
    Calls Try.prog 42 #[.agg #[.int .i64 m, .int .i64 f, .int .i64 a], .int .i64 x] w fun e w' => e = .returned (.tuple #[.int .i64 (nsV m f a x), .bool (nsB m f a x)]) ∧ Below w.heap.size w w' := by
  cases h1 : nsB m f a x with
  | false =>
    have hn : nsV m f a x = 0 := by simp [nsV, h1]
    rw [hn]; clear hn
    go_enter Try.func42, Try.ntmps42
    go_wp2_with fail
    refine (isState_any m f a x _).mono ?_
    rintro e w1 ⟨rfl, hb1⟩
    go_wp2
    go_ret2
    exact ⟨rfl, bw_call (bw_alloc (bw_refl _) _) hb1⟩
  | true =>
    have hn : nsV m f a x = stp m f a x := by simp [nsV, h1]
    rw [hn]; clear hn
    have H1 := h1
    go_enter Try.func42, Try.ntmps42
    go_wp2_with fail
    refine (isState_any m f a x _).mono ?_
    rintro e w1 ⟨rfl, hb1⟩
    have c0 := cell_new hb1 0 rfl
    have c1 := cell_new hb1 1 rfl
    have c2 := cell_new hb1 2 rfl
    go_wp2_with fail
    refine (step_any m f a x _ H1).mono ?_
    rintro e w2 ⟨rfl, hb2⟩
    go_wp2
    go_ret2
    exact ⟨rfl, bw_call (bw_alloc (bw_refl _) _) (bw_call hb1 hb2)⟩

/-- A register's polynomial. -/
def polyV (wd tp : Int) : Int := if vrB wd tp = true then orI (sh wd) tp else 0
end Go.Proofs.Ytifigkkghfjhpaa
