/-
  Contracts of the order of x, OrderOfX and IsPrimitive. No condition beyond int64's bounds.
-/
import Derived.Test.YtkepnjdomlfpdaaC19
import Derived.Test.YtkepnjdomlfpdaaM6
namespace Go.Proofs.Ytkepnjdomlfpdaa
open Go.RowKit
set_option linter.unusedVariables false

/-- A polynomial of a degree from 1 to 16 with bit 0. -/
def ooB (p : Int) : Bool := inR p 2 131071 && (p % 2 == 1)
theorem ooB_nat {p : Int} (h : ooB p = true) : ∃ n : Nat, p = n ∧ 2 ≤ n ∧ n ≤ 131071 ∧ n % 2 = 1 := by
  simp only [ooB, Bool.and_eq_true, beq_iff_eq] at h
  have := inR_true h.1
  exact ⟨p.toNat, by omega, by omega, by omega, by omega⟩
theorem isOrdered_any (p : Int) (w : World) : Calls Try.prog 44 #[.int .i64 p] w fun e w' => e = .returned (.bool (ooB p)) ∧ w = w' := by
  cases h1 : inR p 2 131071 with
  | false =>
    go_enter Try.func44, Try.ntmps44
    go_wp2_with (go_at_call 55; refine (inRange_of h1 _).mono ?_; rintro e w' ⟨rfl, rfl⟩)
    go_ret
    exact ⟨ret_bool (by simp [ooB, h1]), rfl⟩
  | true =>
    have b := inR_true h1
    have ea : bits .and .i64 p 1 = p % 2 := by
      rw [i64_and (by omega) (by omega) (by omega) (by omega), andI_one _ (by omega)]
    obtain ⟨r, hr⟩ : ∃ r, p % 2 = r := ⟨_, rfl⟩
    rw [hr] at ea
    have HR := Lib.hid hr
    clear hr
    go_enter Try.func44, Try.ntmps44
    go_wp2_with (go_at_call 55; refine (inRange_of h1 _).mono ?_; rintro e w' ⟨rfl, rfl⟩)
    go_ret
    exact ⟨ret_bool (by simp [ooB, h1, HR.out]), rfl⟩
theorem isOrdered_of {p : Int} {b : Bool} (h : ooB p = b) (w : World) : Calls Try.prog 44 #[.int .i64 p] w fun e w' => e = .returned (.bool b) ∧ w = w' := h ▸ isOrdered_any p w
theorem l02Small_any (p : Int) (w : World) : Calls Try.prog 41 #[.int .i64 p] w fun e w' => e = .returned (.bool (ooB p)) ∧ w = w' := by
  cases h1 : inR p 2 131071 with
  | false =>
    go_enter Try.func41, Try.ntmps41
    go_wp2_with (go_at_call 54; refine (l00In_of h1 _).mono ?_; rintro e w' ⟨rfl, rfl⟩)
    go_ret
    exact ⟨ret_bool (by simp [ooB, h1]), rfl⟩
  | true =>
    have b := inR_true h1
    go_enter Try.func41, Try.ntmps41
    go_wp2_with (go_at_call 54; refine (l00In_of h1 _).mono ?_; rintro e w' ⟨rfl, rfl⟩)
    go_ret
    exact ⟨ret_bool (by simp [ooB, h1]), rfl⟩
theorem l02Small_of {p : Int} {b : Bool} (h : ooB p = b) (w : World) : Calls Try.prog 41 #[.int .i64 p] w fun e w' => e = .returned (.bool b) ∧ w = w' := h ▸ l02Small_any p w
theorem xo_zero {p : Nat} (h : 2 ≤ p) : (dv p 0 1).2 = 1 := by rw [dv_end (by have := bl_two_le h; rw [bl_one]; omega)]
theorem orderOfX_any (p : Nat) (w : World) (h2 : 2 ≤ p) (hp : p ≤ 131071) (ho : p % 2 = 1) :
    Calls Try.prog 45 #[.int .i64 p] w fun e w' => e = .returned (.int .i64 (ordx p : Nat)) ∧ w = w' := by
  obtain ⟨o1, o2, o3, o4⟩ := ordx_spec h2 ho
  obtain ⟨O, hO⟩ : ∃ O, ordx p = O := ⟨_, rfl⟩
  rw [hO] at o1 o2 o3 o4 ⊢
  have O3 := Lib.hid o3
  have O4 := Lib.hid o4
  have P1 := Lib.hid (show 0 < p by omega)
  have P2 := Lib.hid (show p < 9223372036854775808 by omega)
  have H2 := Lib.hid h2
  have X1 := Lib.hid (show (dv p 0 2).2 = xo p 1 from rfl)
  clear hO o3 o4
  go_enter Try.func45, Try.ntmps45
  go_wp2_with fail
  refine (dividePolys_any 2 p _ (by decide) P1.out P2.out).mono ?_
  rw [X1.out]
  rintro e w' ⟨rfl, rfl⟩
  go_wp2
  go_loop [4, 5] (fun x n => ∃ k : Nat, 1 ≤ k ∧ k ≤ O ∧ n = .int .i64 k ∧ x = .int .i64 (xo p k : Nat)) (fun _ n => O - (intOf n).toNat)
  case atStart => exact ⟨1, Nat.le_refl _, o1, rfl, rfl⟩
  case round =>
    obtain ⟨k, k1, k2, rfl, rfl⟩ := hrel
    by_cases hlt : k < O
    · have hne := O4.out k k1 hlt
      have lx := xo_lt H2.out k
      have HX := Lib.hid (show (dv p 0 (xo p k * 2)).2 = xo p (k + 1) from rfl)
      obtain ⟨x, hx⟩ : ∃ x, xo p k = x := ⟨_, rfl⟩
      rw [hx] at hne lx HX ⊢
      have n1 : ¬ (x : Int) = 1 := by omega
      have HE := Lib.hid (show (x : Int) * 2 = ((x * 2 : Nat) : Int) by omega)
      clear hx hne
      go_wp2_with fail
      rw [HE.out]
      refine (dividePolys_any (x * 2) p _ (by omega) P1.out P2.out).mono ?_
      rw [HX.out]
      rintro e w' ⟨rfl, rfl⟩
      go_wp2
      go_round
      case rel => exact ⟨k + 1, by omega, by omega, by go_num, rfl⟩
      case measure => simp [intOf]; omega
    · have hke : k = O := by omega
      subst hke
      rw [O3.out]
      go_wp2
      go_ret
      exact ⟨rfl, rfl⟩
theorem l02Order_any (p : Nat) (w : World) (h2 : 2 ≤ p) (hp : p ≤ 131071) (ho : p % 2 = 1) :
    Calls Try.prog 42 #[.int .i64 p] w fun e w' => e = .returned (.int .i64 (ordx p : Nat)) ∧ w = w' := by
  obtain ⟨o1, o2, o3, o4⟩ := ordx_spec h2 ho
  obtain ⟨O, hO⟩ : ∃ O, ordx p = O := ⟨_, rfl⟩
  rw [hO] at o1 o2 o3 o4 ⊢
  have O3 := Lib.hid o3
  have O4 := Lib.hid o4
  have P1 := Lib.hid (show 0 < p by omega)
  have P2 := Lib.hid (show p < 9223372036854775808 by omega)
  have H2 := Lib.hid h2
  have X0 := Lib.hid (xo_zero h2)
  have X1 := Lib.hid (show (dv p 0 2).2 = xo p 1 from rfl)
  clear hO o3 o4
  go_enter Try.func42, Try.ntmps42
  go_wp2_with fail
  refine (l02Div_any 1 p _ (by decide) P1.out P2.out).mono ?_
  rw [X0.out]
  rintro e w' ⟨rfl, rfl⟩
  go_wp2_with fail
  refine (l02Div_any 2 p _ (by decide) P1.out P2.out).mono ?_
  rw [X1.out]
  rintro e w' ⟨rfl, rfl⟩
  go_wp2
  go_loop [6, 7] (fun x n => ∃ k : Nat, 1 ≤ k ∧ k ≤ O ∧ n = .int .i64 k ∧ x = .int .i64 (xo p k : Nat)) (fun _ n => O - (intOf n).toNat)
  case atStart => exact ⟨1, Nat.le_refl _, o1, rfl, rfl⟩
  case round =>
    obtain ⟨k, k1, k2, rfl, rfl⟩ := hrel
    by_cases hlt : k < O
    · have hne := O4.out k k1 hlt
      have lx := xo_lt H2.out k
      have HX := Lib.hid (show (dv p 0 (xo p k * 2)).2 = xo p (k + 1) from rfl)
      obtain ⟨x, hx⟩ : ∃ x, xo p k = x := ⟨_, rfl⟩
      rw [hx] at hne lx HX ⊢
      have n1 : ¬ (x : Int) = 1 := by omega
      have HE := Lib.hid (show (x : Int) * 2 = ((x * 2 : Nat) : Int) by omega)
      clear hx hne
      go_wp2_with fail
      rw [HE.out]
      refine (l02Div_any (x * 2) p _ (by omega) P1.out P2.out).mono ?_
      rw [HX.out]
      rintro e w' ⟨rfl, rfl⟩
      go_wp2
      go_round
      case rel => exact ⟨k + 1, by omega, by omega, by go_num, rfl⟩
      case measure => simp [intOf]; omega
    · have hke : k = O := by omega
      subst hke
      rw [O3.out]
      go_wp2
      go_ret
      exact ⟨rfl, rfl⟩
def ooV (p : Int) : Int := if ooB p = true then ((ordx p.toNat : Nat) : Int) else 0
def prB (p : Int) : Bool := ooB p && (((ordx p.toNat : Nat) : Int) == ((2 ^ (bl p.toNat - 1) : Nat) : Int) - 1)
theorem OrderOfX_any (p : Int) (w : World) :
    Calls Try.prog 20 #[.int .i64 p] w fun e w' => e = .returned (.tuple #[.int .i64 (ooV p), .bool (ooB p)]) ∧ w = w' := by
  cases h1 : ooB p with
  | false =>
    have e : ooV p = 0 := by simp [ooV, h1]
    rw [e]
    clear e
    go_enter Try.func20, Try.ntmps20
    go_wp2_with (go_at_call 44; refine (isOrdered_of h1 _).mono ?_; rintro e w' ⟨rfl, rfl⟩)
    go_ret2
    exact ⟨rfl, rfl⟩
  | true =>
    have e : ooV p = ((ordx p.toNat : Nat) : Int) := by simp [ooV, h1]
    rw [e]
    clear e
    obtain ⟨n, rfl, n1, n2, n3⟩ := ooB_nat h1
    rw [Int.toNat_natCast]
    have N3 := Lib.hid n3
    clear n3
    go_enter Try.func20, Try.ntmps20
    go_wp2_with (first | (go_at_call 44; refine (isOrdered_of h1 _).mono ?_; rintro e w' ⟨rfl, rfl⟩) | (go_at_call 45; refine (orderOfX_any n _ n1 n2 N3.out).mono ?_; rintro e w' ⟨rfl, rfl⟩))
    go_ret2
    exact ⟨rfl, rfl⟩
theorem sOrderOfX_any (p : Int) (w : World) :
    Calls Try.prog 19 #[.int .i64 p] w fun e w' => e = .returned (.tuple #[.int .i64 (ooV p), .bool (ooB p)]) ∧ w = w' := by
  cases h1 : ooB p with
  | false =>
    have e : ooV p = 0 := by simp [ooV, h1]
    rw [e]
    clear e
    go_enter Try.func19, Try.ntmps19
    go_wp2_with (go_at_call 41; refine (l02Small_of h1 _).mono ?_; rintro e w' ⟨rfl, rfl⟩)
    go_ret2
    exact ⟨rfl, rfl⟩
  | true =>
    have e : ooV p = ((ordx p.toNat : Nat) : Int) := by simp [ooV, h1]
    rw [e]
    clear e
    obtain ⟨n, rfl, n1, n2, n3⟩ := ooB_nat h1
    rw [Int.toNat_natCast]
    have N3 := Lib.hid n3
    clear n3
    go_enter Try.func19, Try.ntmps19
    go_wp2_with (first | (go_at_call 41; refine (l02Small_of h1 _).mono ?_; rintro e w' ⟨rfl, rfl⟩) | (go_at_call 42; refine (l02Order_any n _ n1 n2 N3.out).mono ?_; rintro e w' ⟨rfl, rfl⟩))
    go_ret2
    exact ⟨rfl, rfl⟩
theorem IsPrimitive_any (p : Int) (w : World) :
    Calls Try.prog 16 #[.int .i64 p] w fun e w' => e = .returned (.bool (prB p)) ∧ w = w' := by
  cases h1 : ooB p with
  | false =>
    have e : prB p = false := by simp [prB, h1]
    rw [e]
    clear e
    go_enter Try.func16, Try.ntmps16
    go_wp2_with (go_at_call 44; refine (isOrdered_of h1 _).mono ?_; rintro e w' ⟨rfl, rfl⟩)
    go_ret
    exact ⟨rfl, rfl⟩
  | true =>
    obtain ⟨n, rfl, n1, n2, n3⟩ := ooB_nat h1
    have e : prB n = (((ordx n : Nat) : Int) == ((2 ^ (bl n - 1) : Nat) : Int) - 1) := by simp only [prB, h1, Int.toNat_natCast, Bool.true_and]
    rw [e]
    clear e
    have N3 := Lib.hid n3
    have NL := Lib.hid (show n < 9223372036854775808 by omega)
    have l1 := bl_two_le n1
    have l2 : bl n ≤ 17 := bl_le (by show n < 131072; omega)
    have hs := shl_one (s := bl n - 1) (by omega)
    have hp : 2 ^ (bl n - 1) ≤ 2 ^ 16 := Nat.pow_le_pow_right (by decide) (by omega)
    have hp2 : 0 < 2 ^ (bl n - 1) := Nat.pow_pos (by decide)
    have ht : (((bl n : Nat) : Int) - 1).toNat = bl n - 1 := by omega
    obtain ⟨B, hB⟩ : ∃ B, bl n = B := ⟨_, rfl⟩
    obtain ⟨O, hO⟩ : ∃ B, Hid (ordx n = B) := ⟨_, Lib.hid rfl⟩
    rw [hB] at l1 l2 hs hp hp2 ht ⊢
    rw [hO.out]
    have HB := Lib.hid hB
    obtain ⟨Z, hZ⟩ : ∃ Z, 2 ^ (B - 1) = Z := ⟨_, rfl⟩
    rw [hZ] at hs hp hp2 ⊢
    have z1 : (1 : Int) ≤ (Z : Int) := by omega
    have z2 : (Z : Int) ≤ 65536 := by have : (2 : Nat) ^ 16 = 65536 := by decide
                                      omega
    clear n3 hB hZ hp hp2
    go_enter Try.func16, Try.ntmps16
    go_wp2_with (first | (go_at_call 44; refine (isOrdered_of h1 _).mono ?_; rintro e w' ⟨rfl, rfl⟩) | (go_at_call 45; refine (orderOfX_any n _ n1 n2 N3.out).mono ?_; rw [hO.out]; rintro e w' ⟨rfl, rfl⟩) | (go_at_call 46; refine (degree_any n _ NL.out).mono ?_; rw [HB.out]; rintro e w' ⟨rfl, rfl⟩))
    go_ret
    exact ⟨rfl, rfl⟩
theorem sIsPrimitive_any (p : Int) (w : World) :
    Calls Try.prog 15 #[.int .i64 p] w fun e w' => e = .returned (.bool (prB p)) ∧ w = w' := by
  cases h1 : ooB p with
  | false =>
    have e : prB p = false := by simp [prB, h1]
    rw [e]
    clear e
    go_enter Try.func15, Try.ntmps15
    go_wp2_with (go_at_call 41; refine (l02Small_of h1 _).mono ?_; rintro e w' ⟨rfl, rfl⟩)
    go_ret
    exact ⟨rfl, rfl⟩
  | true =>
    obtain ⟨n, rfl, n1, n2, n3⟩ := ooB_nat h1
    have e : prB n = (((ordx n : Nat) : Int) == ((2 ^ (bl n - 1) : Nat) : Int) - 1) := by simp only [prB, h1, Int.toNat_natCast, Bool.true_and]
    rw [e]
    clear e
    have N3 := Lib.hid n3
    have NL := Lib.hid (show n < 9223372036854775808 by omega)
    have l1 := bl_two_le n1
    have l2 : bl n ≤ 17 := bl_le (by show n < 131072; omega)
    have hs := shl_one (s := bl n - 1) (by omega)
    have hp : 2 ^ (bl n - 1) ≤ 2 ^ 16 := Nat.pow_le_pow_right (by decide) (by omega)
    have hp2 : 0 < 2 ^ (bl n - 1) := Nat.pow_pos (by decide)
    have ht : (((bl n : Nat) : Int) - 1).toNat = bl n - 1 := by omega
    obtain ⟨B, hB⟩ : ∃ B, bl n = B := ⟨_, rfl⟩
    obtain ⟨O, hO⟩ : ∃ B, Hid (ordx n = B) := ⟨_, Lib.hid rfl⟩
    rw [hB] at l1 l2 hs hp hp2 ht ⊢
    rw [hO.out]
    have HB := Lib.hid hB
    obtain ⟨Z, hZ⟩ : ∃ Z, 2 ^ (B - 1) = Z := ⟨_, rfl⟩
    rw [hZ] at hs hp hp2 ⊢
    have z1 : (1 : Int) ≤ (Z : Int) := by omega
    have z2 : (Z : Int) ≤ 65536 := by have : (2 : Nat) ^ 16 = 65536 := by decide
                                      omega
    clear n3 hB hZ hp hp2
    go_enter Try.func15, Try.ntmps15
    go_wp2_with (first | (go_at_call 41; refine (l02Small_of h1 _).mono ?_; rintro e w' ⟨rfl, rfl⟩) | (go_at_call 42; refine (l02Order_any n _ n1 n2 N3.out).mono ?_; rw [hO.out]; rintro e w' ⟨rfl, rfl⟩) | (go_at_call 43; refine (l02Degree_any n _ NL.out).mono ?_; rw [HB.out]; rintro e w' ⟨rfl, rfl⟩))
    go_ret
    exact ⟨rfl, rfl⟩
end Go.Proofs.Ytkepnjdomlfpdaa
