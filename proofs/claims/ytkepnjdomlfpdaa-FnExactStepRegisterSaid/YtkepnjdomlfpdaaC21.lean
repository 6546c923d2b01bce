/-
  Contracts of a register's step, both forms. No condition beyond int64's bounds.
-/
import Derived.Test.YtkepnjdomlfpdaaC1
import Derived.Test.YtkepnjdomlfpdaaC8
namespace Go.Proofs.Ytkepnjdomlfpdaa
open Go.RowKit
set_option linter.unusedVariables false

theorem vrB_true {wd tp : Int} (h : vrB wd tp = true) : (0 ≤ wd ∧ wd ≤ 16) ∧ 0 ≤ tp ∧ tp ≤ sh wd - 1 := by
  simp only [vrB, Bool.and_eq_true] at h
  exact ⟨inR_true h.1, inR_true h.2⟩
/-- A valid register and a state of it. -/
def rsB (wd tp s : Int) : Bool := vrB wd tp && inR s 0 (sh wd - 1)
theorem rsB_true {wd tp s : Int} (h : rsB wd tp s = true) : (0 ≤ wd ∧ wd ≤ 16) ∧ (0 ≤ tp ∧ tp ≤ 65535) ∧ 0 ≤ s ∧ s ≤ 65535 := by
  simp only [rsB, Bool.and_eq_true] at h
  have h1 := vrB_true h.1
  have h2 := inR_true h.2
  have s2 : sh wd ≤ 65536 := sh_le h1.1.2
  exact ⟨h1.1, by omega, by omega⟩
def rsN (wd tp s : Int) : Int := if wd = 0 then 0 else bits .or .i64 (s / 2) (wrap64 (parI (andI tp s) * 2 ^ (wd.toNat - 1)))
def rsO (wd s : Int) : Int := if wd = 0 then 0 else bits .and .i64 s 1
theorem andI_comm (a b : Int) : andI a b = andI b a := by unfold andI; rw [Nat.and_comm]
theorem andI_le {a b : Int} (h : 0 ≤ a) : andI a b ≤ a := by
  have : a.toNat &&& b.toNat ≤ a.toNat := Nat.and_le_left
  unfold andI; omega
theorem isRegisterState_any (wd tp s : Int) (w : World) :
    Calls Try.prog 51 #[.agg #[.int .i64 wd, .int .i64 tp], .int .i64 s] w fun e w' => e = .returned (.bool (rsB wd tp s)) ∧ Below w.heap.size w w' := by
  cases h1 : vrB wd tp with
  | false =>
    go_enter Try.func51, Try.ntmps51
    go_wp2_with fail
    refine (ValidRegister_any wd tp _).mono ?_
    rintro e w1 ⟨rfl, hb1⟩
    go_wp2
    go_ret
    exact ⟨ret_bool (by simp [rsB, h1]), bw_call (bw_alloc (bw_refl _) _) hb1⟩
  | true =>
    have b1 := (vrB_true h1).1
    have s1 := sh_pos wd
    have s2 : sh wd ≤ 65536 := sh_le b1.2
    have hs := sh_wrap (n := wd) (by omega)
    go_enter Try.func51, Try.ntmps51
    go_wp2_with fail
    refine (ValidRegister_any wd tp _).mono ?_
    rintro e w1 ⟨rfl, hb1⟩
    have c0 := cell_new hb1 0 rfl
    go_wp2_with (go_at_call 55; refine (inRange_any _ _ _ _).mono ?_; rintro e w' ⟨rfl, rfl⟩)
    go_ret
    exact ⟨ret_bool (by simp [rsB, h1]), bw_call (bw_alloc (bw_refl _) _) hb1⟩
theorem l02Both_any (wd tp s : Int) (b : Nat) (w : World) (c0 : w.cell? ⟨b, 0, none⟩ = some (.int .i64 wd)) (c1 : w.cell? ⟨b, 1, none⟩ = some (.int .i64 tp)) :
    Calls Try.prog 49 #[.pointer (some ⟨b, 0, none⟩), .int .i64 s] w fun e w' => e = .returned (.bool (rsB wd tp s)) ∧ ∃ n, w' = w.drewN n := by
  cases h1 : vrB wd tp with
  | false =>
    go_enter Try.func49, Try.ntmps49
    go_wp2_with (go_at_call 61; refine (l02Is_any wd tp _ _ c0 c1).mono ?_; rintro e w' ⟨rfl, n, rfl⟩)
    go_ret
    exact ⟨ret_bool (by simp [rsB, h1]), _, rfl⟩
  | true =>
    have b1 := (vrB_true h1).1
    go_enter Try.func49, Try.ntmps49
    go_wp2_with (first | (go_at_call 61; refine (l02Is_any wd tp _ _ c0 c1).mono ?_; rintro e w' ⟨rfl, n, rfl⟩) | (go_at_call 62; refine (l02State_any _ _ _ b1.1 b1.2).mono ?_; rintro e w' ⟨rfl, rfl⟩))
    go_ret
    exact ⟨ret_bool (by simp [rsB, h1]), _, rfl⟩
theorem l02Parity_any (n : Int) (w : World) (h0 : 0 ≤ n) (h1 : n ≤ 9223372036854775807) :
    Calls Try.prog 63 #[.int .i64 n] w fun e w' => e = .returned (.int .i64 (parI n)) ∧ w = w' := by
  obtain ⟨X, rfl⟩ := Int.eq_ofNat_of_zero_le h0
  go_enter Try.func63, Try.ntmps63
  go_wp2
  go_loop [0, 3] (fun r o => ∃ (q : Nat) (p : Nat), q ≤ X ∧ p ≤ 1 ∧ r = .int .i64 (q : Int) ∧ o = .int .i64 (p : Int) ∧ Hid ((p + pc q) % 2 = pc X % 2)) (fun r _ => (intOf r).toNat)
  case atStart => exact ⟨X, 0, by omega, by omega, rfl, rfl, Lib.hid (by rw [Nat.zero_add])⟩
  case round =>
    obtain ⟨q, p, q1, p1, rfl, rfl, hr⟩ := hrel
    by_cases hq : 0 < q
    · have ea : bits .and .i64 (q : Int) 1 = ((q % 2 : Nat) : Int) := by
        rw [show (1 : Int) = ((1 : Nat) : Int) from rfl, i64_and_nat q 1 (by omega) (by omega), Nat.and_one_is_mod]
      have ex := i64_xor_nat p (q % 2) (by omega) (by omega)
      have hx : p ^^^ (q % 2) = (p + q) % 2 := by
        have h2 : q % 2 = 0 ∨ q % 2 = 1 := by omega
        have h3 : p = 0 ∨ p = 1 := by omega
        rcases h2 with h2 | h2 <;> rcases h3 with h3 | h3 <;> rw [h2, h3] <;> simp <;> omega
      rw [hx] at ex
      obtain ⟨r, hr2⟩ : ∃ r, q % 2 = r := ⟨_, rfl⟩
      obtain ⟨t, ht⟩ : ∃ r, (p + q) % 2 = r := ⟨_, rfl⟩
      rw [hr2] at ea ex
      rw [ht] at ex
      have HP := Lib.hid (pc_step q)
      have HT := Lib.hid ht
      have lt : t ≤ 1 := by omega
      clear hx hr2 ht
      go_wp2
      go_round
      case rel => exact ⟨q / 2, t, by omega, lt, by go_num, rfl, Lib.hid (by have := hr.out; have := HP.out; have := HT.out; omega)⟩
      case measure => simp [intOf]; omega
    · have hz : q = 0 := by omega
      subst hz
      have HZ := Lib.hid pc_zero
      go_wp2
      go_ret
      exact ⟨ret_i64 (by have := hr.out; rw [HZ.out] at this; show (p : Int) = parI X; unfold parI; rw [Int.toNat_natCast]; omega), rfl⟩
theorem l02Step_any (wd tp s : Int) (b : Nat) (w : World) (c0 : w.cell? ⟨b, 0, none⟩ = some (.int .i64 wd)) (c1 : w.cell? ⟨b, 1, none⟩ = some (.int .i64 tp)) (h : rsB wd tp s = true) :
    Calls Try.prog 50 #[.pointer (some ⟨b, 0, none⟩), .int .i64 s] w fun e w' => e = .returned (.tuple #[.int .i64 (rsN wd tp s), .int .i64 (rsO wd s)]) ∧ ∃ n, w' = w.drewN n := by
  obtain ⟨b1, b2, b3⟩ := rsB_true h
  clear h
  by_cases h0 : wd = 0
  · have e1 : rsN wd tp s = 0 := by simp [rsN, h0]
    have e2 : rsO wd s = 0 := by simp [rsO, h0]
    rw [e1, e2]
    clear e1 e2
    subst h0
    go_enter Try.func50, Try.ntmps50
    go_wp2
    go_ret2
    exact ⟨rfl, 0, rfl⟩
  · have e1 : rsN wd tp s = bits .or .i64 (s / 2) (wrap64 (parI (andI tp s) * 2 ^ (wd.toNat - 1))) := by simp [rsN, h0]
    have e2 : rsO wd s = bits .and .i64 s 1 := by simp [rsO, h0]
    rw [e1, e2, andI_comm]
    have ea := i64_and (a := s) (b := tp) (by omega) (by omega) (by omega) (by omega)
    have a0 := andI_nonneg s tp
    have a1 := andI_le (a := s) (b := tp) b3.1
    obtain ⟨X, hX⟩ : ∃ X, andI s tp = X := ⟨_, rfl⟩
    rw [hX] at ea a0 a1 ⊢
    clear e1 e2 hX
    go_enter Try.func50, Try.ntmps50
    go_wp2_with fail
    go_quiet ((go_at_call 63; exact quiet_left (l02Parity_any X _ a0 (by omega))))
    go_wp2
    go_ret2
    exact ⟨rfl, _, rfl⟩
theorem rstep_any (wd tp s : Int) (w : World) (h : rsB wd tp s = true) :
    Calls Try.prog 52 #[.agg #[.int .i64 wd, .int .i64 tp], .int .i64 s] w fun e w' => e = .returned (.tuple #[.int .i64 (rsN wd tp s), .int .i64 (rsO wd s)]) ∧ Below w.heap.size w w' := by
  obtain ⟨b1, b2, b3⟩ := rsB_true h
  clear h
  by_cases h0 : wd = 0
  · have e1 : rsN wd tp s = 0 := by simp [rsN, h0]
    have e2 : rsO wd s = 0 := by simp [rsO, h0]
    rw [e1, e2]
    clear e1 e2
    subst h0
    go_enter Try.func52, Try.ntmps52
    go_wp2
    go_ret2
    exact ⟨rfl, bw_alloc (bw_refl _) _⟩
  · have e1 : rsN wd tp s = bits .or .i64 (s / 2) (wrap64 (parI (andI tp s) * 2 ^ (wd.toNat - 1))) := by simp [rsN, h0]
    have e2 : rsO wd s = bits .and .i64 s 1 := by simp [rsO, h0]
    rw [e1, e2]
    have ea := i64_and (a := tp) (b := s) (by omega) (by omega) (by omega) (by omega)
    have a0 := andI_nonneg tp s
    have a1 := andI_le (a := tp) (b := s) b2.1
    obtain ⟨X, hX⟩ : ∃ X, andI tp s = X := ⟨_, rfl⟩
    rw [hX] at ea a0 a1 ⊢
    clear e1 e2 hX
    go_enter Try.func52, Try.ntmps52
    go_wp2_with fail
    go_quiet ((go_at_call 65; exact quiet_left (parity_any X _ a0 (by omega))))
    go_wp2
    go_ret2
    exact ⟨rfl, bw_drewN (bw_alloc (bw_refl _) _) _⟩
def srN (wd tp s : Int) : Int := if rsB wd tp s = true then rsN wd tp s else 0
def srO (wd tp s : Int) : Int := if rsB wd tp s = true then rsO wd s else 0
theorem StepRegister_any (wd tp s : Int) (w : World) :
    Calls Try.prog 23 #[.agg #[.int .i64 wd, .int .i64 tp], .int .i64 s] w fun e w' => e = .returned (.tuple #[.int .i64 (srN wd tp s), .int .i64 (srO wd tp s), .bool (rsB wd tp s)]) ∧ Below w.heap.size w w' := by
  cases h1 : rsB wd tp s with
  | false =>
    have e1 : srN wd tp s = 0 := by simp [srN, h1]
    have e2 : srO wd tp s = 0 := by simp [srO, h1]
    rw [e1, e2]
    clear e1 e2
    go_enter Try.func23, Try.ntmps23
    go_wp2_with fail
    refine (isRegisterState_any wd tp s _).mono ?_
    rintro e w1 ⟨rfl, hb1⟩
    go_wp2
    go_ret3
    exact ⟨rfl, bw_call (bw_alloc (bw_refl _) _) hb1⟩
  | true =>
    have e1 : srN wd tp s = rsN wd tp s := by simp [srN, h1]
    have e2 : srO wd tp s = rsO wd s := by simp [srO, h1]
    rw [e1, e2]
    clear e1 e2
    have H1 := Lib.hid h1
    go_enter Try.func23, Try.ntmps23
    go_wp2_with fail
    refine (isRegisterState_any wd tp s _).mono ?_
    rintro e w1 ⟨rfl, hb1⟩
    have c0 := cell_new hb1 0 rfl
    have c1 := cell_new hb1 1 rfl
    go_wp2_with fail
    refine (rstep_any wd tp s _ H1.out).mono ?_
    rintro e w2 ⟨rfl, hb2⟩
    clear c0 c1
    go_wp2
    go_ret3
    exact ⟨rfl, bw_call (bw_call (bw_alloc (bw_refl _) _) hb1) hb2⟩
theorem sStepRegister_any (wd tp s : Int) (w : World) :
    Calls Try.prog 21 #[.agg #[.int .i64 wd, .int .i64 tp], .int .i64 s] w fun e w' => e = .returned (.tuple #[.int .i64 (srN wd tp s), .int .i64 (srO wd tp s), .bool (rsB wd tp s)]) ∧ Below w.heap.size w w' := by
  cases h1 : rsB wd tp s with
  | false =>
    have e1 : srN wd tp s = 0 := by simp [srN, h1]
    have e2 : srO wd tp s = 0 := by simp [srO, h1]
    rw [e1, e2]
    clear e1 e2
    go_enter Try.func21, Try.ntmps21
    go_wp2_with (go_at_call 49; refine (l02Both_any wd tp s _ _ (by simp) (by simp)).mono ?_; rintro e w' ⟨rfl, n, rfl⟩)
    go_ret3
    exact ⟨rfl, bw_drewN (bw_alloc (bw_refl _) _) _⟩
  | true =>
    have e1 : srN wd tp s = rsN wd tp s := by simp [srN, h1]
    have e2 : srO wd tp s = rsO wd s := by simp [srO, h1]
    rw [e1, e2]
    clear e1 e2
    have H1 := Lib.hid h1
    go_enter Try.func21, Try.ntmps21
    go_wp2_with (go_at_call 49; refine (l02Both_any wd tp s _ _ (by simp) (by simp)).mono ?_; rintro e w' ⟨rfl, n, rfl⟩)
    refine (l02Step_any wd tp s _ _ (by simp) (by simp) H1.out).mono ?_
    rintro e w' ⟨rfl, m, rfl⟩
    go_wp2
    go_ret3
    exact ⟨rfl, bw_drewN (bw_alloc (bw_refl _) _) _⟩
end Go.Proofs.Ytkepnjdomlfpdaa
