/-
  The order of x modulo a polynomial with bit 0: the powers come back to 1. Plain numbers, no program.
-/
import Derived.Test.YtkepnjdomlfpdaaM5
import Derived.Test.YtkepnjdomlfpdaaM1
namespace Go.Proofs.Ytkepnjdomlfpdaa
set_option linter.unusedVariables false

/-- x times a, modulo p. -/
def xst (p a : Nat) : Nat := (dv p 0 (a * 2)).2
def xo (p : Nat) : Nat → Nat
  | 0 => 1
  | k + 1 => xst p (xo p k)
theorem xst_small {p a : Nat} (h : bl (a * 2) < bl p) : xst p a = a * 2 := by rw [xst, dv_end h]
theorem xst_big {p a : Nat} (hp : 0 < p) (h : bl (a * 2) = bl p) : xst p a = (a * 2) ^^^ p := by
  have pp := bl_pos (n := p) (by omega)
  have ha : a * 2 ≠ 0 := by intro e; rw [e, bl_zero] at h; omega
  have hs := xor_short h ha
  have e : p * 2 ^ (bl (a * 2) - bl p) = p := by rw [h, Nat.sub_self]; omega
  rw [xst, dv_go hp (by omega), e, dv_end]
  have := bl_le hs
  omega
theorem bl_two {a b : Nat} (h : bl a < b) (hb : 0 < b) : bl (a * 2) ≤ b := by
  by_cases h0 : a = 0
  · subst h0; rw [Nat.zero_mul, bl_zero]; omega
  · have := bl_mul (n := a) (s := 1) h0
    rw [Nat.pow_one] at this
    omega
theorem xor_odd {a p : Nat} (hp : p % 2 = 1) : ((a * 2) ^^^ p) % 2 = 1 := by
  have h : ((a * 2) ^^^ p).testBit 0 = true := by
    rw [Nat.testBit_xor, Nat.testBit_zero, Nat.testBit_zero, decide_eq_false (by omega), decide_eq_true hp]; rfl
  rw [Nat.testBit_zero] at h
  exact of_decide_eq_true h
theorem xor_cancel {a b p : Nat} (h : a ^^^ p = b ^^^ p) : a = b := by
  have := congrArg (· ^^^ p) h
  simpa [Nat.xor_assoc] using this
theorem xst_inj {p a b : Nat} (hp : 2 ≤ p) (ho : p % 2 = 1) (ha : bl a < bl p) (hb : bl b < bl p) (h : xst p a = xst p b) : a = b := by
  have pp := bl_pos (n := p) (by omega)
  have h1 := bl_two ha pp
  have h2 := bl_two hb pp
  by_cases ea : bl (a * 2) = bl p
  · by_cases eb : bl (b * 2) = bl p
    · rw [xst_big (by omega) ea, xst_big (by omega) eb] at h
      have := xor_cancel h
      omega
    · rw [xst_big (by omega) ea, xst_small (by omega)] at h
      have := xor_odd (a := a) ho
      omega
  · by_cases eb : bl (b * 2) = bl p
    · rw [xst_big (by omega) eb, xst_small (by omega)] at h
      have := xor_odd (a := b) ho
      omega
    · rw [xst_small (by omega), xst_small (by omega)] at h
      omega
theorem bl_one : bl 1 = 1 := bl_eq (k := 0) (by decide) (by decide)
theorem bl_two_le {p : Nat} (h : 2 ≤ p) : 2 ≤ bl p := bl_gt (k := 1) (by simpa using h)
theorem xo_res {p : Nat} (hp : 2 ≤ p) : ∀ k, bl (xo p k) < bl p
  | 0 => by have := bl_two_le hp; show bl 1 < _; rw [bl_one]; omega
  | k + 1 => dv_rest (by omega) _ _ _ (Nat.le_refl _)
theorem xo_lt {p : Nat} (hp : 2 ≤ p) (k : Nat) : xo p k < p := by
  have h1 := xo_res hp k
  have h2 := bl_lt (xo p k)
  have h3 := bl_ge (n := p) (by omega)
  have h4 : 2 ^ bl (xo p k) ≤ 2 ^ (bl p - 1) := Nat.pow_le_pow_right (by decide) (by omega)
  omega
theorem xo_back {p : Nat} (hp : 2 ≤ p) (ho : p % 2 = 1) : ∀ i n, xo p i = xo p (i + n) → xo p n = 1
  | 0, n, h => by rw [Nat.zero_add] at h; exact h.symm
  | i + 1, n, h => by
    refine xo_back hp ho i n (xst_inj hp ho (xo_res hp _) (xo_res hp _) ?_)
    have e : i + 1 + n = (i + n) + 1 := by omega
    rw [e] at h
    exact h
theorem xo_one {p : Nat} (hp : 2 ≤ p) (ho : p % 2 = 1) : ∃ n, 1 ≤ n ∧ n ≤ p ∧ xo p n = 1 := by
  obtain ⟨i, j, hij, hj, he⟩ := pigeon p (fun i => xo p i) (fun i _ => xo_lt hp i)
  refine ⟨j - i, by omega, by omega, xo_back hp ho i (j - i) ?_⟩
  rw [Nat.add_sub_cancel' (by omega)]
  exact he
def ordx (p : Nat) : Nat := ((List.range p).find? (fun i => xo p (i + 1) == 1)).getD 0 + 1
theorem ordx_spec {p : Nat} (hp : 2 ≤ p) (ho : p % 2 = 1) : 1 ≤ ordx p ∧ ordx p ≤ p ∧ xo p (ordx p) = 1 ∧ ∀ j, 1 ≤ j → j < ordx p → xo p j ≠ 1 := by
  obtain ⟨n, h1, h2, h3⟩ := xo_one hp ho
  unfold ordx
  cases hf : (List.range p).find? (fun i => xo p (i + 1) == 1) with
  | none =>
    rw [List.find?_range_eq_none] at hf
    have := hf (n - 1) (by omega)
    rw [show n - 1 + 1 = n by omega, h3] at this
    simp at this
  | some i =>
    rw [List.find?_range_eq_some] at hf
    obtain ⟨p1, p2, p3⟩ := hf
    refine ⟨by simp, by simp at p2 ⊢; omega, by simpa using p1, fun j j1 j2 => ?_⟩
    have := p3 (j - 1) (by simp at j2; omega)
    rw [show j - 1 + 1 = j by omega] at this
    simpa using this
end Go.Proofs.Ytkepnjdomlfpdaa
