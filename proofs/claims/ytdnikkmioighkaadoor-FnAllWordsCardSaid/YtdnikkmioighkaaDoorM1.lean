/-
  Plain arithmetic: pigeons, the order of a factor modulo a number. Conditions stand in each lemma. No Go program here.
-/
import Derived.Test.YtdnikkmioighkaaDoorKit
namespace Go.Proofs.YtdnikkmioighkaaDoor
set_option linter.unusedVariables false

theorem pigeon : ∀ (n : Nat) (f : Nat → Nat), (∀ i, i ≤ n → f i < n) → ∃ i j, i < j ∧ j ≤ n ∧ f i = f j
  | 0, f, h => by have := h 0 (by omega); omega
  | n + 1, f, h => by
    by_cases hx : ∃ i, i ≤ n ∧ f i = f (n + 1)
    · obtain ⟨i, hi, he⟩ := hx
      exact ⟨i, n + 1, by omega, by omega, he⟩
    · let g : Nat → Nat := fun i => if f i = n then f (n + 1) else f i
      have hg : ∀ i, i ≤ n → g i < n := by
        intro i hi
        have h1 := h i (by omega)
        have h2 := h (n + 1) (by omega)
        have h3 : f i ≠ f (n + 1) := fun e => hx ⟨i, hi, e⟩
        show (if f i = n then f (n + 1) else f i) < n
        split <;> omega
      obtain ⟨i, j, hij, hj, he⟩ := pigeon n g hg
      refine ⟨i, j, hij, by omega, ?_⟩
      have e : (if f i = n then f (n + 1) else f i) = (if f j = n then f (n + 1) else f j) := he
      have h3 : f i ≠ f (n + 1) := fun e => hx ⟨i, by omega, e⟩
      have h4 : f j ≠ f (n + 1) := fun e => hx ⟨j, by omega, e⟩
      split at e <;> split at e <;> omega

theorem pos_of_gcd {a m : Nat} (hm : 2 ≤ m) (hg : Nat.gcd a m = 1) : 0 < a := by
  rcases Nat.eq_zero_or_pos a with h | h
  · subst h; simp at hg; omega
  · exact h

theorem pow_one_of {a m : Nat} (hm : 2 ≤ m) (hg : Nat.gcd a m = 1) : ∃ n, 1 ≤ n ∧ n ≤ m ∧ a ^ n % m = 1 := by
  obtain ⟨i, j, hij, hj, he⟩ := pigeon m (fun i => a ^ i % m) (fun i _ => Nat.mod_lt _ (by omega))
  refine ⟨j - i, by omega, by omega, ?_⟩
  have ha := pos_of_gcd hm hg
  have he' : a ^ i % m = a ^ j % m := he
  have hle : a ^ i ≤ a ^ j := Nat.pow_le_pow_right ha (by omega)
  have hd : m ∣ a ^ j - a ^ i := Nat.dvd_of_mod_eq_zero (Nat.sub_mod_eq_zero_of_mod_eq he'.symm)
  have e : a ^ j - a ^ i = a ^ i * (a ^ (j - i) - 1) := by
    rw [Nat.mul_sub, ← Nat.pow_add, Nat.mul_one, show i + (j - i) = j by omega]
  rw [e] at hd
  have hc : Nat.Coprime m (a ^ i) := Nat.Coprime.symm (Nat.Coprime.pow_left i hg)
  have hd2 : m ∣ a ^ (j - i) - 1 := hc.dvd_of_dvd_mul_left hd
  have hpos : 1 ≤ a ^ (j - i) := Nat.pow_pos ha
  obtain ⟨c, hc⟩ := hd2
  have : a ^ (j - i) = m * c + 1 := by omega
  rw [this, Nat.mul_add_mod, Nat.mod_eq_of_lt (by omega)]

/-- No power is 1 if there is a common divisor. -/
theorem pow_not_one {a m n : Nat} (hm : 2 ≤ m) (hn : 1 ≤ n) (h : a ^ n % m = 1) : Nat.gcd a m = 1 := by
  have hda : Nat.gcd a m ∣ a ^ n := Nat.dvd_trans (Nat.gcd_dvd_left a m) ⟨a ^ (n - 1), by rw [← Nat.pow_succ', show (n - 1).succ = n by omega]⟩
  have hdm : Nat.gcd a m ∣ m := Nat.gcd_dvd_right a m
  have h1 : Nat.gcd a m ∣ a ^ n % m := (Nat.dvd_mod_iff hdm).2 hda
  rw [h] at h1
  exact Nat.dvd_one.1 h1

/-- The least n from 1 on with a ^ n % m = 1, looked for up to m. -/
def ord (a m : Nat) : Nat := ((List.range m).find? (fun i => a ^ (i + 1) % m == 1)).getD 0 + 1

theorem ord_spec {a m : Nat} (hm : 2 ≤ m) (hg : Nat.gcd a m = 1) : 1 ≤ ord a m ∧ ord a m ≤ m ∧ a ^ ord a m % m = 1 ∧ ∀ j, 1 ≤ j → j < ord a m → a ^ j % m ≠ 1 := by
  obtain ⟨n, h1, h2, h3⟩ := pow_one_of hm hg
  unfold ord
  cases hf : (List.range m).find? (fun i => a ^ (i + 1) % m == 1) with
  | none =>
    rw [List.find?_range_eq_none] at hf
    have := hf (n - 1) (by omega)
    rw [show n - 1 + 1 = n by omega, h3] at this
    simp at this
  | some i =>
    rw [List.find?_range_eq_some] at hf
    obtain ⟨p1, p2, p3⟩ := hf
    refine ⟨by simp, by simp at p2 ⊢; omega, by simpa using p1, fun j j1 j2 => ?_⟩
    have := p3 (j - 1) (by simp at j2; omega)
    rw [show j - 1 + 1 = j by omega] at this
    simpa using this

end Go.Proofs.YtdnikkmioighkaaDoor
