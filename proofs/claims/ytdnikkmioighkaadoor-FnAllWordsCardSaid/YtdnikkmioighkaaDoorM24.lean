/-
  The equations that taps must fulfil to output bits, the least width with a solution, the least taps. Plain, no program.
-/
import Derived.Test.YtdnikkmioighkaaDoorM23
import Derived.Test.YtdnikkmioighkaaDoorM20
import Derived.Test.YtdnikkmioighkaaDoorB2
namespace Go.Proofs.YtdnikkmioighkaaDoor
set_option linter.unusedVariables false

/-- Bit i of a text, 0 beyond. -/
def bitN (s : ByteArray) (i : Nat) : Nat := (byt s i - 48).toNat
theorem bitN_byt {s : ByteArray} (hb : BitsTo s s.size) {i : Nat} (h : i < s.size) : (bitN s i : Int) = byt s i - 48 ∧ bitN s i ≤ 1 := by
  have := byt_bits hb h
  unfold bitN
  omega
/-- The first k bits from t on, the first one lowest. -/
def eqN (s : ByteArray) (t : Nat) : Nat → Nat
  | 0 => 0
  | k + 1 => eqN s t k ||| bitN s (t + k) * 2 ^ k
theorem eqN_lt {s : ByteArray} (hb : BitsTo s s.size) (t : Nat) : ∀ k, t + k ≤ s.size → eqN s t k < 2 ^ k
  | 0, _ => by simp [eqN]
  | k + 1, h => by
    have ih := eqN_lt hb t k (by omega)
    have hb1 := (bitN_byt hb (show t + k < s.size by omega)).2
    unfold eqN
    refine Nat.or_lt_two_pow (Nat.lt_of_lt_of_le ih (Nat.pow_le_pow_right (by decide) (by omega))) ?_
    have : bitN s (t + k) * 2 ^ k ≤ 1 * 2 ^ k := Nat.mul_le_mul_right _ hb1
    rw [Nat.pow_succ]
    have h2 : 0 < 2 ^ k := Nat.pow_pos (by decide)
    omega
/-- The first n equations of a width. -/
def eqL (s : ByteArray) (W n : Nat) : List Nat := (List.range n).map fun t => eqN s t (W + 1)
theorem eqL_succ (s : ByteArray) (W n : Nat) : eqL s W (n + 1) = eqL s W n ++ [eqN s n (W + 1)] := by simp [eqL, List.range_succ]
theorem eqL_len (s : ByteArray) (W n : Nat) : (eqL s W n).length = n := by simp [eqL]
theorem eqL_lt {s : ByteArray} (hb : BitsTo s s.size) {W n : Nat} (h : n + W ≤ s.size) : ∀ e ∈ eqL s W n, e < 2 ^ (W + 1) := by
  intro e he
  obtain ⟨t, ht, rfl⟩ := List.mem_map.1 he
  exact eqN_lt hb t (W + 1) (by have := List.mem_range.1 ht; omega)
theorem solv_nil (W : Nat) : Solv W [] := ⟨0, fun e he => by cases he⟩
theorem solv_left {W : Nat} {es fs : List Nat} (h : Solv W (es ++ fs)) : Solv W es := by
  obtain ⟨x, hx⟩ := h
  exact ⟨x, fun e he => hx e (List.mem_append_left _ he)⟩
/-- The equations of a width, all of them. -/
def eqA (s : ByteArray) (W : Nat) : List Nat := eqL s W (s.size - W)
def IsW (s : ByteArray) (W : Nat) : Prop := Solv W (eqA s W) ∧ ∀ V, V < W → ¬ Solv V (eqA s V)
theorem isW_exists (s : ByteArray) : ∃ W, IsW s W :=
  least_such (fun W => Solv W (eqA s W)) s.size (by unfold eqA; rw [Nat.sub_self]; exact solv_nil _)
theorem IsW.le {s : ByteArray} {W : Nat} (h : IsW s W) : W ≤ s.size := by
  apply Nat.le_of_not_lt
  intro c
  exact h.2 s.size c (by unfold eqA; rw [Nat.sub_self]; exact solv_nil _)
/-- The least width of a register that outputs the bits. -/
noncomputable def shW (s : ByteArray) : Nat := Classical.choose (isW_exists s)
theorem shW_is (s : ByteArray) : IsW s (shW s) := Classical.choose_spec (isW_exists s)
theorem shW_eq {s : ByteArray} {W : Nat} (h : IsW s W) : shW s = W := by
  have h' := shW_is s
  rcases Nat.lt_trichotomy (shW s) W with c | c | c
  · exact absurd h'.1 (h.2 _ c)
  · exact c
  · exact absurd h.1 (h'.2 _ c)
theorem leastS_exists {W : Nat} {es : List Nat} (h : Solv W es) : ∃ L, LeastS W es L := by
  obtain ⟨x, hx⟩ := h
  obtain ⟨L, h1, h2⟩ := least_such (fun x => AllS W es x) x hx
  exact ⟨L, h1, fun y hy => Nat.le_of_not_lt fun c => h2 y c hy⟩
/-- The least taps. -/
noncomputable def shL (s : ByteArray) : Nat := Classical.choose (leastS_exists (shW_is s).1)
theorem shL_is (s : ByteArray) : LeastS (shW s) (eqA s (shW s)) (shL s) := Classical.choose_spec (leastS_exists (shW_is s).1)
theorem shL_eq {s : ByteArray} {L : Nat} (h : LeastS (shW s) (eqA s (shW s)) L) : shL s = L := (shL_is s).unique h
/-- The lowest bit that is set. -/
theorem low_bit {u l : Nat} (h : u.testBit l = true) (h0 : ∀ i, i < l → u.testBit i = false) (hu : u < 2 ^ 63) : u &&& (2 ^ 64 - u) = 2 ^ l := by
  have hl : l < 63 := by
    apply Nat.lt_of_not_le
    intro c
    rw [Nat.testBit_lt_two_pow (Nat.lt_of_lt_of_le hu (Nat.pow_le_pow_right (by decide) c))] at h
    cases h
  have hm : u % 2 ^ (l + 1) = 2 ^ l := by
    apply Nat.eq_of_testBit_eq
    intro i
    rw [Nat.testBit_mod_two_pow, Nat.testBit_two_pow]
    by_cases c : i = l
    · subst c; simp [h]
    · by_cases d : i < l
      · simp [h0 i d, show ¬ l = i by omega]
      · simp [show ¬ l = i by omega, show ¬ i < l + 1 by omega]
  have hu1 : u = 2 ^ (l + 1) * (u / 2 ^ (l + 1)) + 2 ^ l := by
    have := Nat.div_add_mod u (2 ^ (l + 1))
    omega
  have hp : 0 < 2 ^ l := Nat.pow_pos (by decide)
  have hu2 : u - 1 = 2 ^ (l + 1) * (u / 2 ^ (l + 1)) + (2 ^ l - 1) := by omega
  have hn : 2 ^ 64 - u = 2 ^ 64 - ((u - 1) + 1) := by omega
  have hlt : 2 ^ l < 2 ^ (l + 1) := Nat.pow_lt_pow_right (by decide) (by omega)
  apply Nat.eq_of_testBit_eq
  intro i
  rw [Nat.testBit_and, hn, Nat.testBit_two_pow_sub_succ (by omega), hu2]
  conv => lhs; lhs; rw [hu1]
  rw [Nat.testBit_two_pow_mul_add _ hlt, Nat.testBit_two_pow_mul_add _ (by omega), Nat.testBit_two_pow, Nat.testBit_two_pow_sub_one]
  by_cases c : i < l + 1
  · rw [if_pos c, if_pos c]
    by_cases d : l = i
    · subst d; simp; omega
    · simp [d]
  · rw [if_neg c, if_neg c]
    simp [show ¬ l = i by omega]
    intro a _; exact a
end Go.Proofs.YtdnikkmioighkaaDoor
