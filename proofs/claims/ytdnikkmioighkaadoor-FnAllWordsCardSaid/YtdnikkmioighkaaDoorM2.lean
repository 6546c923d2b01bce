/-
  Plain arithmetic: how many ones a number has to the base 2, and Go's way to count them. Conditions stand in each lemma. No Go program here.
-/
import Derived.Test.YtdnikkmioighkaaDoorKit
namespace Go.Proofs.YtdnikkmioighkaaDoor
set_option linter.unusedVariables false

/-- How many ones a number has to the base 2. -/
def pc (n : Nat) : Nat := if h : n = 0 then 0 else n % 2 + pc (n / 2)
theorem pc_zero : pc 0 = 0 := by unfold pc; simp
theorem pc_step (n : Nat) : pc n = n % 2 + pc (n / 2) := by
  by_cases h : n = 0
  · subst h; simp [pc_zero]
  · rw [pc]; simp [h]
theorem pc_le : ∀ (k n : Nat), n < 2 ^ k → pc n ≤ k
  | 0, n, h => by have : n = 0 := by simpa using h
                  subst this; simp [pc_zero]
  | k + 1, n, h => by
    have := pc_le k (n / 2) (by rw [Nat.pow_succ] at h; omega)
    rw [pc_step]; omega

/-- digit sum to the base B of k digits, each at most c, nothing above -/
def Dg (B c : Nat) : Nat → Nat → Prop
  | 0, x => x = 0
  | k + 1, x => x % B ≤ c ∧ Dg B c k (x / B)
def ds (B : Nat) : Nat → Nat → Nat
  | 0, _ => 0
  | k + 1, x => x % B + ds B k (x / B)
/-- The mask with the number m in each of k digits to the base B. -/
def mk (B m : Nat) : Nat → Nat
  | 0 => 0
  | k + 1 => B * mk B m k + m

theorem and_digit (b A C p q : Nat) (hp : p < 2 ^ b) (hq : q < 2 ^ b) : (2 ^ b * A + p) &&& (2 ^ b * C + q) = 2 ^ b * (A &&& C) + (p &&& q) := by
  have hpq : p &&& q < 2 ^ b := Nat.and_lt_two_pow _ hq
  apply Nat.eq_of_testBit_eq
  intro i
  rw [Nat.testBit_and, Nat.testBit_two_pow_mul_add _ hp, Nat.testBit_two_pow_mul_add _ hq, Nat.testBit_two_pow_mul_add _ hpq]
  split <;> simp [Nat.testBit_and]

theorem and_low (b A C p : Nat) (hp : p < 2 ^ b * 2 ^ b) : (2 ^ b * 2 ^ b * A + p) &&& (2 ^ b * 2 ^ b * C + (2 ^ b - 1)) = 2 ^ b * 2 ^ b * (A &&& C) + p % 2 ^ b := by
  have h1 : 2 ^ b * 2 ^ b = 2 ^ (b + b) := (Nat.pow_add 2 b b).symm
  have h2 : 0 < 2 ^ b := Nat.pow_pos (by decide)
  have h3 : 2 ^ b * 1 ≤ 2 ^ b * 2 ^ b := Nat.mul_le_mul_left _ h2
  rw [← Nat.and_two_pow_sub_one_eq_mod]
  rw [h1] at hp h3 ⊢
  exact and_digit (b + b) A C p (2 ^ b - 1) hp (by omega)

theorem bits_Dg : ∀ (k x : Nat), x < 2 ^ k → Dg 2 1 k x
  | 0, x, h => show x = 0 by simpa using h
  | k + 1, x, h => ⟨by omega, bits_Dg k (x / 2) (by rw [Nat.pow_succ] at h; omega)⟩
theorem bits_ds : ∀ (k x : Nat), x < 2 ^ k → ds 2 k x = pc x
  | 0, x, h => by have : x = 0 := by simpa using h
                  subst this; simp [ds, pc_zero]
  | k + 1, x, h => by
    rw [pc_step, ds, bits_ds k (x / 2) (by rw [Nat.pow_succ] at h; omega)]

/-- Two digits of b bits become one of 2 b bits. -/
theorem fold_step (b c : Nat) (hc : 2 * c < 2 ^ b * 2 ^ b) : ∀ (k x : Nat), Dg (2 ^ b) c (2 * k) x → 
    Dg (2 ^ b * 2 ^ b) (2 * c) k ((x / 2 ^ b &&& mk (2 ^ b * 2 ^ b) (2 ^ b - 1) k) + (x &&& mk (2 ^ b * 2 ^ b) (2 ^ b - 1) k)) ∧
    ds (2 ^ b * 2 ^ b) k ((x / 2 ^ b &&& mk (2 ^ b * 2 ^ b) (2 ^ b - 1) k) + (x &&& mk (2 ^ b * 2 ^ b) (2 ^ b - 1) k)) = ds (2 ^ b) (2 * k) x
  | 0, x, h => by
    have h' : x = 0 := h
    subst h'; simp [Dg, ds, mk]
  | k + 1, x, h => by
    rw [show 2 * (k + 1) = 2 * k + 1 + 1 by omega] at h ⊢
    obtain ⟨h1, h2, h3⟩ := h
    obtain ⟨i1, i2⟩ := fold_step b c hc k _ h3
    simp only [ds]
    have hal := and_low b
    generalize 2 ^ b = B at *
    have hBp : 0 < B := by rcases Nat.eq_zero_or_pos B with h | h
                           · subst h; omega
                           · exact h
    -- x = B * B * q + (B * h + l)
    generalize hq : x / B / B = q at *
    generalize hh : x / B % B = h at *
    generalize hl : x % B = l at *
    have hhB : h < B := by rw [← hh]; exact Nat.mod_lt _ hBp
    have hlB : l < B := by rw [← hl]; exact Nat.mod_lt _ hBp
    have e1 : x / B = B * q + h := by rw [← hq, ← hh]; exact (Nat.div_add_mod _ _).symm
    have e0 : x = B * (B * q + h) + l := by rw [← e1, ← hl]; exact (Nat.div_add_mod _ _).symm
    have a1 : (x &&& mk (B * B) (B - 1) (k + 1)) = B * B * (q &&& mk (B * B) (B - 1) k) + l := by
      have ep : B * h + l < B * B := by
        have : B * h + B ≤ B * B := by rw [← Nat.mul_succ]; exact Nat.mul_le_mul_left _ hhB
        omega
      have := hal q (mk (B * B) (B - 1) k) (B * h + l) ep
      rw [Nat.mul_add_mod, Nat.mod_eq_of_lt hlB] at this
      rw [mk, ← this, e0, Nat.mul_add, ← Nat.mul_assoc, Nat.add_assoc]
    have a2 : (x / B &&& mk (B * B) (B - 1) (k + 1)) = B * B * (q / B &&& mk (B * B) (B - 1) k) + h := by
      have ep : B * (q % B) + h < B * B := by
        have : B * (q % B) + B ≤ B * B := by rw [← Nat.mul_succ]; exact Nat.mul_le_mul_left _ (Nat.mod_lt _ hBp)
        omega
      have := hal (q / B) (mk (B * B) (B - 1) k) (B * (q % B) + h) ep
      rw [Nat.mul_add_mod, Nat.mod_eq_of_lt hhB] at this
      rw [mk, ← this, e1]
      congr 1
      rw [← Nat.add_assoc, Nat.mul_assoc, ← Nat.mul_add, Nat.div_add_mod]
    rw [a1, a2]
    have e : B * B * (q / B &&& mk (B * B) (B - 1) k) + h + (B * B * (q &&& mk (B * B) (B - 1) k) + l) = B * B * ((q / B &&& mk (B * B) (B - 1) k) + (q &&& mk (B * B) (B - 1) k)) + (h + l) := by
      rw [Nat.mul_add]; omega
    rw [e]
    have d1 : ∀ y, (B * B * y + (h + l)) % (B * B) = h + l := fun y => by rw [Nat.mul_add_mod, Nat.mod_eq_of_lt (by omega)]
    have d2 : ∀ y, (B * B * y + (h + l)) / (B * B) = y := fun y => by rw [Nat.mul_add_div (Nat.mul_pos hBp hBp), Nat.div_eq_of_lt (by omega)]; rfl
    refine ⟨⟨by rw [d1]; omega, by rw [d2]; exact i1⟩, ?_⟩
    rw [d1, d2, i2]; omega

/-- The same where the digits are added first and masked then. -/
theorem fold_after (b c : Nat) (hc : 2 * c < 2 ^ b) : ∀ (k x : Nat), Dg (2 ^ b) c (2 * k) x → 
    Dg (2 ^ b * 2 ^ b) (2 * c) k ((x / 2 ^ b + x) &&& mk (2 ^ b * 2 ^ b) (2 ^ b - 1) k) ∧
    ds (2 ^ b * 2 ^ b) k ((x / 2 ^ b + x) &&& mk (2 ^ b * 2 ^ b) (2 ^ b - 1) k) = ds (2 ^ b) (2 * k) x
  | 0, x, h => by
    have h' : x = 0 := h
    subst h'; simp [Dg, ds, mk]
  | k + 1, x, h => by
    rw [show 2 * (k + 1) = 2 * k + 1 + 1 by omega] at h ⊢
    obtain ⟨h1, h2, h3⟩ := h
    obtain ⟨i1, i2⟩ := fold_after b c hc k _ h3
    have h4 : x / 2 ^ b / 2 ^ b % 2 ^ b ≤ c := by
      match k, h3 with
      | 0, h3 => have h3' : x / 2 ^ b / 2 ^ b = 0 := h3
                 rw [h3']; simp
      | k + 1, h3 => exact h3.1
    simp only [ds]
    have hal := and_low b
    generalize 2 ^ b = B at *
    have hBp : 0 < B := by omega
    generalize hq : x / B / B = q at *
    generalize hh : x / B % B = h at *
    generalize hl : x % B = l at *
    have e1 : x / B = B * q + h := by rw [← hq, ← hh]; exact (Nat.div_add_mod _ _).symm
    have e0 : x = B * (B * q + h) + l := by rw [← e1, ← hl]; exact (Nat.div_add_mod _ _).symm
    have eq : q = B * (q / B) + q % B := (Nat.div_add_mod _ _).symm
    have a1 : ((x / B + x) &&& mk (B * B) (B - 1) (k + 1)) = B * B * ((q / B + q) &&& mk (B * B) (B - 1) k) + (h + l) := by
      have ep : B * (q % B + h) + (h + l) < B * B := by
        have : B * (q % B + h) + B ≤ B * B := by rw [← Nat.mul_succ]; exact Nat.mul_le_mul_left _ (by omega)
        omega
      have := hal (q / B + q) (mk (B * B) (B - 1) k) (B * (q % B + h) + (h + l)) ep
      rw [Nat.mul_add_mod, Nat.mod_eq_of_lt (show h + l < B by omega)] at this
      rw [mk, ← this]
      congr 1
      have f1 : B * q = B * B * (q / B) + B * (q % B) := by rw [Nat.mul_assoc, ← Nat.mul_add, Nat.div_add_mod]
      have f2 : x = B * B * q + B * h + l := by rw [e0, Nat.mul_add, ← Nat.mul_assoc]
      rw [e1, f2, Nat.mul_add (B * B), Nat.mul_add B, f1]
      omega
    rw [a1]
    have d0 : h + l < B * B := by
      have : B * 1 ≤ B * B := Nat.mul_le_mul_left _ hBp
      omega
    have d1 : ∀ y, (B * B * y + (h + l)) % (B * B) = h + l := fun y => by rw [Nat.mul_add_mod, Nat.mod_eq_of_lt d0]
    have d2 : ∀ y, (B * B * y + (h + l)) / (B * B) = y := fun y => by rw [Nat.mul_add_div (Nat.mul_pos hBp hBp), Nat.div_eq_of_lt d0]; rfl
    refine ⟨⟨by rw [d1]; omega, by rw [d2]; exact i1⟩, ?_⟩
    rw [d1, d2, i2]; omega

/-- Go's OnesCount64, step by step. -/
def oc1 (x : Nat) : Nat := (x / 2 &&& 6148914691236517205) + (x &&& 6148914691236517205)
def oc2 (x : Nat) : Nat := (x / 4 &&& 3689348814741910323) + (x &&& 3689348814741910323)
def oc3 (x : Nat) : Nat := (x / 16 + x) &&& 1085102592571150095
theorem oc3_spec (x : Nat) (h : x < 18446744073709551616) : Dg 256 8 8 (oc3 (oc2 (oc1 x))) ∧ ds 256 8 (oc3 (oc2 (oc1 x))) = pc x := by
  obtain ⟨a1, a2⟩ := fold_step 1 1 (by decide) 32 x (bits_Dg 64 x (by omega))
  obtain ⟨b1, b2⟩ := fold_step 2 2 (by decide) 16 (oc1 x) a1
  obtain ⟨c1, c2⟩ := fold_after 4 4 (by decide) 8 (oc2 (oc1 x)) b1
  exact ⟨c1, c2.trans (b2.trans (a2.trans (bits_ds 64 x (by omega))))⟩
theorem oc_sum (y : Nat) (h : Dg 256 8 8 y) : (y + y / 256 + (y + y / 256) / 65536 + (y + y / 256 + (y + y / 256) / 65536) / 4294967296) % 128 = ds 256 8 y ∧ y < 651345242494996241 := by
  simp only [Dg, ds] at *
  obtain ⟨h0, h1, h2, h3, h4, h5, h6, h7, h8⟩ := h
  generalize e0 : y % 256 = d0 at *
  generalize f0 : y / 256 = y1 at *
  generalize e1 : y1 % 256 = d1 at *
  generalize f1 : y1 / 256 = y2 at *
  generalize e2 : y2 % 256 = d2 at *
  generalize f2 : y2 / 256 = y3 at *
  generalize e3 : y3 % 256 = d3 at *
  generalize f3 : y3 / 256 = y4 at *
  generalize e4 : y4 % 256 = d4 at *
  generalize f4 : y4 / 256 = y5 at *
  generalize e5 : y5 % 256 = d5 at *
  generalize f5 : y5 / 256 = y6 at *
  generalize e6 : y6 % 256 = d6 at *
  generalize f6 : y6 / 256 = y7 at *
  generalize e7 : y7 % 256 = d7 at *
  have g7 : y7 = d7 := by omega
  have g6 : y6 = 256 * d7 + d6 := by omega
  have g5 : y5 = 65536 * d7 + 256 * d6 + d5 := by omega
  have g4 : y4 = 16777216 * d7 + 65536 * d6 + 256 * d5 + d4 := by omega
  have g3 : y3 = 4294967296 * d7 + 16777216 * d6 + 65536 * d5 + 256 * d4 + d3 := by omega
  have g2 : y2 = 1099511627776 * d7 + 4294967296 * d6 + 16777216 * d5 + 65536 * d4 + 256 * d3 + d2 := by omega
  have g1 : y1 = 281474976710656 * d7 + 1099511627776 * d6 + 4294967296 * d5 + 16777216 * d4 + 65536 * d3 + 256 * d2 + d1 := by omega
  have g0 : y = 72057594037927936 * d7 + 281474976710656 * d6 + 1099511627776 * d5 + 4294967296 * d4 + 16777216 * d3 + 65536 * d2 + 256 * d1 + d0 := by omega
  clear h8 e0 e1 e2 e3 e4 e5 e6 e7 f0 f1 f2 f3 f4 f5 f6 g2 g3 g4 g5 g6 g7 y2 y3 y4 y5 y6 y7
  subst g1
  subst g0
  generalize hj : (72057594037927936 * d7 + 281474976710656 * d6 + 1099511627776 * d5 + 4294967296 * d4 + 16777216 * d3 + 65536 * d2 + 256 * d1 + d0 + (281474976710656 * d7 + 1099511627776 * d6 + 4294967296 * d5 + 16777216 * d4 + 65536 * d3 + 256 * d2 + d1)) / 65536 = j
  have ej : j = 1099511627776 * d7 + 4294967296 * (d6 + d7) + 16777216 * (d5 + d6) + 65536 * (d4 + d5) + 256 * (d3 + d4) + (d2 + d3) := by omega
  clear hj
  subst ej
  generalize hk : (72057594037927936 * d7 + 281474976710656 * d6 + 1099511627776 * d5 + 4294967296 * d4 + 16777216 * d3 + 65536 * d2 + 256 * d1 + d0 + (281474976710656 * d7 + 1099511627776 * d6 + 4294967296 * d5 + 16777216 * d4 + 65536 * d3 + 256 * d2 + d1) + (1099511627776 * d7 + 4294967296 * (d6 + d7) + 16777216 * (d5 + d6) + 65536 * (d4 + d5) + 256 * (d3 + d4) + (d2 + d3))) / 4294967296 = k
  have ek : k = 16777216 * d7 + 65536 * (d6 + d7) + 256 * (d5 + d6 + d7) + (d4 + d5 + d6 + d7) := by omega
  clear hk
  subst ek
  omega

theorem and_even (a b : Nat) : (2 * a) &&& (2 * b + 1) = 2 * (a &&& b) := by
  have := and_digit 1 a b 0 1 (by decide) (by decide)
  simpa using this
theorem and_odd (a : Nat) : (2 * a + 1) &&& (2 * a) = 2 * a := by
  have := and_digit 1 a a 1 0 (by decide) (by decide)
  simpa using this
/-- The least one is struck. -/
theorem pc_strike : ∀ (n : Nat), 0 < n → pc (n &&& (n - 1)) + 1 = pc n := by
  intro n
  induction n using Nat.strongRecOn with
  | _ n ih =>
    intro h
    rcases Nat.mod_two_eq_zero_or_one n with e | e
    · have e1 : n = 2 * (n / 2) := by omega
      have e2 : n - 1 = 2 * (n / 2 - 1) + 1 := by omega
      have e3 : n &&& (n - 1) = 2 * (n / 2 &&& (n / 2 - 1)) := by
        rw [e2]; conv => lhs; lhs; rw [e1]
        exact and_even _ _
      have := ih (n / 2) (by omega) (by omega)
      rw [e3, pc_step (2 * _), pc_step n, Nat.mul_mod_right, Nat.mul_div_cancel_left _ (by decide), e]
      omega
    · have e1 : n = 2 * (n / 2) + 1 := by omega
      have e2 : n - 1 = 2 * (n / 2) := by omega
      have e3 : n &&& (n - 1) = 2 * (n / 2) := by
        rw [e2]; conv => lhs; lhs; rw [e1]
        exact and_odd _
      rw [e3, pc_step (2 * _), pc_step n, Nat.mul_mod_right, Nat.mul_div_cancel_left _ (by decide), e]
      omega
theorem strike_lt (n : Nat) (h : 0 < n) : n &&& (n - 1) < n := Nat.lt_of_le_of_lt Nat.and_le_right (by omega)
/-- The parity of the ones. -/
def parI (n : Int) : Int := ((pc n.toNat % 2 : Nat) : Int)
end Go.Proofs.YtdnikkmioighkaaDoor
