/-
  The ring of polynomials over two elements, as numbers: products, remainders, divisors. Plain numbers, no program.
-/
import Derived.Test.YtkepnjdomlfpdaaM5
import Derived.Test.YtkepnjdomlfpdaaM6
namespace Go.Proofs.Ytkepnjdomlfpdaa
set_option linter.unusedVariables false

/-- The product by the second one's bits, from below. -/
theorem mulK_low (a : Nat) : ∀ k b, mulK a b (k + 1) = (if b % 2 = 1 then a else 0) ^^^ (mulK a (b / 2) k * 2)
  | 0, b => by
    simp only [mulK, Nat.pow_zero, Nat.div_one, Nat.mul_one, Nat.zero_mul, Nat.xor_zero]
    split <;> simp
  | k + 1, b => by
    have e : b / 2 ^ (k + 1) = b / 2 / 2 ^ k := by rw [Nat.div_div_eq_div_mul, Nat.pow_succ, Nat.mul_comm 2]
    have d : ∀ x y : Nat, (x ^^^ y) * 2 = (x * 2) ^^^ (y * 2) := fun x y => by
      have := Nat.shiftLeft_xor_distrib (a := x) (b := y) (i := 1)
      simpa [Nat.shiftLeft_eq] using this
    by_cases h : b / 2 / 2 ^ k % 2 = 1
    · rw [mulK_yes (by rw [e]; exact h), mulK_low a k b, mulK_yes h, d, Nat.xor_assoc, Nat.pow_succ, Nat.mul_assoc]
    · rw [mulK_no (by rw [e]; exact h), mulK_low a k b, mulK_no h]
theorem xor_dbl (x y : Nat) : (x ^^^ y) * 2 = (x * 2) ^^^ (y * 2) := by
  have := Nat.shiftLeft_xor_distrib (a := x) (b := y) (i := 1)
  simpa [Nat.shiftLeft_eq] using this
theorem mulp_zero (a : Nat) : mulp a 0 = 0 := rfl
theorem mulp_low (a b : Nat) : mulp a b = (if b % 2 = 1 then a else 0) ^^^ (mulp a (b / 2) * 2) := by
  by_cases h : b = 0
  · subst h; simp [mulp_zero]
  · have e := bl_half h
    unfold mulp
    rw [e, mulK_low]
theorem mulp_one (a : Nat) : mulp a 1 = a := by rw [mulp_low]; simp [mulp_zero]
theorem mulp_dbl (a b : Nat) : mulp a (b * 2) = mulp a b * 2 := by
  rw [mulp_low, if_neg (by omega), Nat.mul_div_cancel _ (by decide), Nat.zero_xor]
theorem mulp_dbl1 (a b : Nat) : mulp a (b * 2 + 1) = a ^^^ (mulp a b * 2) := by
  rw [mulp_low, if_pos (by omega), show (b * 2 + 1) / 2 = b by omega]
theorem xor_parts (x y : Nat) : (x ^^^ y) / 2 = (x / 2) ^^^ (y / 2) := Nat.xor_div_two
theorem xor_mod (x y : Nat) : (x ^^^ y) % 2 = (x % 2) ^^^ (y % 2) := by
  have := Nat.xor_mod_two_pow (a := x) (b := y) (n := 1)
  simpa using this
/-- Linear in the second factor. -/
theorem mulp_xor (a : Nat) : ∀ (n b c : Nat), b ≤ n → c ≤ n → mulp a (b ^^^ c) = mulp a b ^^^ mulp a c
  | 0, b, c, hb, hc => by
    obtain rfl : b = 0 := by omega
    obtain rfl : c = 0 := by omega
    simp [mulp_zero]
  | n + 1, b, c, hb, hc => by
    have ih := mulp_xor a n (b / 2) (c / 2) (by omega) (by omega)
    rw [mulp_low a (b ^^^ c), mulp_low a b, mulp_low a c, xor_parts, ih, xor_dbl, xor_mod]
    have hb2 : b % 2 = 0 ∨ b % 2 = 1 := by omega
    have hc2 : c % 2 = 0 ∨ c % 2 = 1 := by omega
    generalize mulp a (b / 2) * 2 = x
    generalize mulp a (c / 2) * 2 = y
    rcases hb2 with h | h <;> rcases hc2 with h' | h' <;> rw [h, h'] <;> simp
    · rw [← Nat.xor_assoc, ← Nat.xor_assoc, Nat.xor_comm a x]
    · rw [Nat.xor_assoc]
    · have : a ^^^ x ^^^ (a ^^^ y) = (a ^^^ a) ^^^ (x ^^^ y) := by
        rw [Nat.xor_assoc, Nat.xor_assoc, ← Nat.xor_assoc x a, Nat.xor_comm x a, Nat.xor_assoc]
      rw [this, Nat.xor_self, Nat.zero_xor]
theorem mulp_xorR (a b c : Nat) : mulp a (b ^^^ c) = mulp a b ^^^ mulp a c := mulp_xor a (b + c) b c (by omega) (by omega)
/-- Linear in the first factor. -/
theorem mulp_xorL (a b : Nat) : ∀ (n c : Nat), c ≤ n → mulp (a ^^^ b) c = mulp a c ^^^ mulp b c
  | 0, c, hc => by
    obtain rfl : c = 0 := by omega
    simp [mulp_zero]
  | n + 1, c, hc => by
    have ih := mulp_xorL a b n (c / 2) (by omega)
    rw [mulp_low (a ^^^ b) c, mulp_low a c, mulp_low b c, ih, xor_dbl]
    generalize mulp a (c / 2) * 2 = x
    generalize mulp b (c / 2) * 2 = y
    split
    · rw [Nat.xor_assoc, Nat.xor_assoc, ← Nat.xor_assoc b x, Nat.xor_comm b x, Nat.xor_assoc]
    · simp
theorem mulp_dblL (a : Nat) : ∀ (n c : Nat), c ≤ n → mulp (a * 2) c = mulp a c * 2
  | 0, c, hc => by
    obtain rfl : c = 0 := by omega
    simp [mulp_zero]
  | n + 1, c, hc => by
    have ih := mulp_dblL a n (c / 2) (by omega)
    rw [mulp_low (a * 2) c, mulp_low a c, ih, xor_dbl]
    congr 1
    split <;> simp
theorem zero_mulp : ∀ (n c : Nat), c ≤ n → mulp 0 c = 0
  | 0, c, hc => by
    obtain rfl : c = 0 := by omega
    simp [mulp_zero]
  | n + 1, c, hc => by
    rw [mulp_low, zero_mulp n (c / 2) (by omega)]
    split <;> simp
theorem one_mulp : ∀ (n c : Nat), c ≤ n → mulp 1 c = c
  | 0, c, hc => by
    obtain rfl : c = 0 := by omega
    simp [mulp_zero]
  | n + 1, c, hc => by
    rw [mulp_low, one_mulp n (c / 2) (by omega)]
    split
    · rename_i h
      have : c = c / 2 * 2 + 1 := by omega
      generalize c / 2 = d at this
      rw [this]
      apply Nat.eq_of_testBit_eq
      intro i
      cases i with
      | zero => simp
      | succ i =>
        rw [Nat.testBit_succ, Nat.testBit_succ, xor_parts, show (d * 2 + 1) / 2 = d by omega, Nat.mul_div_cancel _ (by decide), Nat.zero_xor]
    · simp; omega
theorem low_xor (c : Nat) : c = (c % 2) ^^^ (c / 2 * 2) := by
  have h := one_mulp c c (Nat.le_refl _)
  rw [mulp_low, one_mulp (c / 2) (c / 2) (Nat.le_refl _)] at h
  rcases (show c % 2 = 0 ∨ c % 2 = 1 by omega) with e | e
  · rw [if_neg (by omega)] at h; rw [e, h]
  · rw [if_pos (by omega)] at h; rw [e, h]
theorem mulp_comm : ∀ (n a b : Nat), b ≤ n → mulp a b = mulp b a
  | 0, a, b, hb => by
    obtain rfl : b = 0 := by omega
    rw [mulp_zero, zero_mulp a a (Nat.le_refl _)]
  | n + 1, a, b, hb => by
    have ih := mulp_comm n a (b / 2) (by omega)
    rw [mulp_low a b, ih]
    conv => rhs; rw [low_xor b]
    rw [mulp_xorL _ _ a a (Nat.le_refl _), mulp_dblL _ a a (Nat.le_refl _)]
    congr 1
    rcases (show b % 2 = 0 ∨ b % 2 = 1 by omega) with e | e
    · rw [if_neg (by omega), e, zero_mulp a a (Nat.le_refl _)]
    · rw [if_pos (by omega), e, one_mulp a a (Nat.le_refl _)]
theorem mulpC (a b : Nat) : mulp a b = mulp b a := mulp_comm b a b (Nat.le_refl _)
theorem mulp_assoc : ∀ (n a b c : Nat), c ≤ n → mulp (mulp a b) c = mulp a (mulp b c)
  | 0, a, b, c, hc => by
    obtain rfl : c = 0 := by omega
    simp [mulp_zero]
  | n + 1, a, b, c, hc => by
    have ih := mulp_assoc n a b (c / 2) (by omega)
    rw [mulp_low (mulp a b) c, ih, mulp_low b c, mulp_xorR, mulp_dbl]
    congr 1
    split
    · rfl
    · exact (mulp_zero a).symm
theorem mulpA (a b c : Nat) : mulp (mulp a b) c = mulp a (mulp b c) := mulp_assoc c a b c (Nat.le_refl _)
theorem bl_xor_lt {x y : Nat} (h : bl x < bl y) : bl (x ^^^ y) = bl y := by
  have hy : y ≠ 0 := by intro e; subst e; rw [bl_zero] at h; omega
  have py := bl_pos hy
  have l1 := bl_lt x
  have l2 := bl_lt y
  have g2 := bl_ge hy
  have hx : x < 2 ^ (bl y - 1) := Nat.lt_of_lt_of_le l1 (Nat.pow_le_pow_right (by decide) (by omega))
  refine bl_eq' py ?_ (Nat.xor_lt_two_pow (Nat.lt_of_lt_of_le l1 (Nat.pow_le_pow_right (by decide) (by omega))) l2)
  refine Nat.ge_two_pow_of_testBit (i := bl y - 1) ?_
  rw [Nat.testBit_xor, Nat.testBit_lt_two_pow hx, top_bit g2 (by rwa [Nat.sub_add_cancel py])]
  rfl
theorem bl_dbl {n : Nat} (h : n ≠ 0) : bl (n * 2) = bl n + 1 := by simpa using bl_mul (s := 1) h
/-- Degrees add up. -/
theorem bl_mulp {a : Nat} (ha : a ≠ 0) : ∀ (n b : Nat), b ≤ n → b ≠ 0 → mulp a b ≠ 0 ∧ bl (mulp a b) + 1 = bl a + bl b
  | 0, b, hb, h0 => by omega
  | n + 1, b, hb, h0 => by
    by_cases h1 : b = 1
    · subst h1
      rw [mulp_one, bl_one]
      exact ⟨ha, rfl⟩
    · obtain ⟨i1, i2⟩ := bl_mulp ha n (b / 2) (by omega) (by omega)
      have e := bl_half h0
      have d := bl_dbl i1
      have p := bl_pos (n := b / 2) (by omega)
      have pa := bl_pos ha
      have key : bl (mulp a b) = bl (mulp a (b / 2) * 2) := by
        rw [mulp_low]
        split
        · exact bl_xor_lt (by omega)
        · rw [Nat.zero_xor]
      refine ⟨fun c => ?_, by omega⟩
      rw [c, bl_zero] at key
      omega
theorem blm {a b : Nat} (ha : a ≠ 0) (hb : b ≠ 0) : mulp a b ≠ 0 ∧ bl (mulp a b) + 1 = bl a + bl b := bl_mulp ha b b (Nat.le_refl _) hb
theorem mulp_pow (b s : Nat) : mulp b (2 ^ s) = b * 2 ^ s := by
  induction s with
  | zero => simp [mulp_one]
  | succ s ih => rw [Nat.pow_succ, mulp_dbl, ih, Nat.mul_assoc]
/-- The quotient and the remainder. -/
theorem dv_sum {b : Nat} (hb : 0 < b) : ∀ (n q a : Nat), a ≤ n → (bl b ≤ bl a → ∀ i, i ≤ bl a - bl b → q.testBit i = false) → mulp b (dv b q a).1 ^^^ (dv b q a).2 = mulp b q ^^^ a
  | n, q, a, hn, hq => by
    by_cases h : bl b ≤ bl a
    · rw [dv_go hb h]
      have hl := dv_less ⟨hb, h⟩
      have pa := bl_pos (n := b) (by omega)
      have a0 : a ≠ 0 := by intro e; subst e; rw [bl_zero] at h; omega
      have hs := xor_short (a := a) (c := b * 2 ^ (bl a - bl b)) (by rw [bl_mul (by omega)]; omega) a0
      have hbl := bl_le hs
      have eo : q ||| 2 ^ (bl a - bl b) = q ^^^ 2 ^ (bl a - bl b) := by
        apply Nat.eq_of_testBit_eq
        intro i
        rw [Nat.testBit_or, Nat.testBit_xor, Nat.testBit_two_pow]
        by_cases hi : bl a - bl b = i
        · subst hi
          rw [hq h _ (Nat.le_refl _)]
          simp
        · simp [hi]
      have hq' : bl b ≤ bl (a ^^^ (b * 2 ^ (bl a - bl b))) → ∀ i, i ≤ bl (a ^^^ (b * 2 ^ (bl a - bl b))) - bl b → (q ||| 2 ^ (bl a - bl b)).testBit i = false := fun h1 i hi => by
        rw [Nat.testBit_or, hq h i (by omega), Nat.testBit_two_pow]
        have : ¬ bl a - bl b = i := by omega
        simp [this]
      have step : mulp b (q ||| 2 ^ (bl a - bl b)) ^^^ (a ^^^ (b * 2 ^ (bl a - bl b))) = mulp b q ^^^ a := by
        rw [eo, mulp_xorR, mulp_pow, Nat.xor_assoc, Nat.xor_comm a, ← Nat.xor_assoc (b * 2 ^ _), Nat.xor_self, Nat.zero_xor]
      match n with
      | 0 => omega
      | n + 1 => rw [dv_sum hb n _ _ (by omega) hq', step]
    · rw [dv_end (by omega)]
def md (p a : Nat) : Nat := (dv p 0 a).2
def qt (p a : Nat) : Nat := (dv p 0 a).1
theorem md_sum {p : Nat} (hp : 0 < p) (a : Nat) : mulp p (qt p a) ^^^ md p a = a := by
  have := dv_sum hp a 0 a (Nat.le_refl _) (fun _ i _ => Nat.zero_testBit i)
  rw [mulp_zero, Nat.zero_xor] at this
  exact this
theorem md_res {p : Nat} (hp : 0 < p) (a : Nat) : bl (md p a) < bl p := dv_rest hp a 0 a (Nat.le_refl _)
theorem xor_zero_eq {x y : Nat} (h : x ^^^ y = 0) : x = y := by
  have : x ^^^ y ^^^ y = 0 ^^^ y := by rw [h]
  rwa [Nat.xor_assoc, Nat.xor_self, Nat.xor_zero, Nat.zero_xor] at this
theorem bl_xor {x y k : Nat} (hx : bl x < k) (hy : bl y < k) : bl (x ^^^ y) < k := by
  have h1 : x < 2 ^ (k - 1) := Nat.lt_of_lt_of_le (bl_lt x) (Nat.pow_le_pow_right (by decide) (by omega))
  have h2 : y < 2 ^ (k - 1) := Nat.lt_of_lt_of_le (bl_lt y) (Nat.pow_le_pow_right (by decide) (by omega))
  have := bl_le (Nat.xor_lt_two_pow h1 h2)
  omega
theorem md_unique {p a q r : Nat} (hp : 0 < p) (h : mulp p q ^^^ r = a) (hr : bl r < bl p) : md p a = r ∧ qt p a = q := by
  have h1 := md_sum hp a
  have h2 := md_res hp a
  have e : mulp p (qt p a ^^^ q) = md p a ^^^ r := by
    have h3 : mulp p (qt p a) ^^^ md p a = mulp p q ^^^ r := by rw [h1, h]
    rw [mulp_xorR]
    have : mulp p (qt p a) = mulp p q ^^^ r ^^^ md p a := by
      rw [← h3, Nat.xor_assoc, Nat.xor_self, Nat.xor_zero]
    rw [this]
    generalize mulp p q = x
    have e2 : x ^^^ r ^^^ md p a ^^^ x = (x ^^^ x) ^^^ (md p a ^^^ r) := by ac_rfl
    rw [e2, Nat.xor_self, Nat.zero_xor]
  by_cases c : qt p a ^^^ q = 0
  · rw [c, mulp_zero] at e
    exact ⟨xor_zero_eq e.symm, xor_zero_eq c⟩
  · obtain ⟨_, h4⟩ := blm (a := p) (by omega) c
    have h5 := bl_xor h2 hr
    have h6 := bl_pos c
    rw [e] at h4
    omega
theorem md_mulp {p : Nat} (hp : 0 < p) (q : Nat) : md p (mulp p q) = 0 := by
  refine (md_unique hp (q := q) (by rw [Nat.xor_zero]) ?_).1
  rw [bl_zero]; exact bl_pos (by omega)
theorem md_small {p a : Nat} (h : bl a < bl p) : md p a = a := by unfold md; rw [dv_end h]
theorem md_xor {p : Nat} (hp : 0 < p) (a b : Nat) : md p (a ^^^ b) = md p a ^^^ md p b := by
  refine (md_unique hp (q := qt p a ^^^ qt p b) ?_ (bl_xor (md_res hp a) (md_res hp b))).1
  conv => rhs; rw [← md_sum hp a, ← md_sum hp b]
  rw [mulp_xorR]
  generalize mulp p (qt p a) = x
  generalize mulp p (qt p b) = y
  generalize md p a = u
  generalize md p b = v
  rw [Nat.xor_assoc, Nat.xor_assoc, ← Nat.xor_assoc y, Nat.xor_comm y u, Nat.xor_assoc]
theorem md_congr {p : Nat} (hp : 0 < p) (a b : Nat) : md p (mulp a (md p b)) = md p (mulp a b) := by
  conv => rhs; rw [← md_sum hp b, mulp_xorR, ← mulpA, mulpC a p, mulpA, md_xor hp, md_mulp hp, Nat.zero_xor]
theorem md_congrL {p : Nat} (hp : 0 < p) (a b : Nat) : md p (mulp (md p a) b) = md p (mulp a b) := by
  rw [mulpC, md_congr hp, mulpC]
theorem md_congr2 {p : Nat} (hp : 0 < p) (a b : Nat) : md p (mulp (md p a) (md p b)) = md p (mulp a b) := by rw [md_congr hp, md_congrL hp]
/-- Divisibility. -/
def Dvp (g a : Nat) : Prop := ∃ q, a = mulp g q
theorem dvp_iff {g a : Nat} (hg : 0 < g) : md g a = 0 ↔ Dvp g a := by
  constructor
  · intro h
    have := md_sum hg a
    rw [h, Nat.xor_zero] at this
    exact ⟨_, this.symm⟩
  · rintro ⟨q, rfl⟩
    exact md_mulp hg q
theorem Dvp.trans {a b c : Nat} (h : Dvp a b) (h' : Dvp b c) : Dvp a c := by
  obtain ⟨q, rfl⟩ := h
  obtain ⟨r, rfl⟩ := h'
  exact ⟨mulp q r, mulpA _ _ _⟩
theorem Dvp.refl (a : Nat) : Dvp a a := ⟨1, (mulp_one a).symm⟩
theorem Dvp.mulp {g a : Nat} (h : Dvp g a) (c : Nat) : Dvp g (mulp a c) := by
  obtain ⟨q, rfl⟩ := h
  exact ⟨_, mulpA _ _ _⟩
theorem Dvp.xor {g a b : Nat} (h : Dvp g a) (h' : Dvp g b) : Dvp g (a ^^^ b) := by
  obtain ⟨q, rfl⟩ := h
  obtain ⟨r, rfl⟩ := h'
  exact ⟨q ^^^ r, (mulp_xorR _ _ _).symm⟩
theorem Dvp.bl_le {g a : Nat} (h : Dvp g a) (ha : a ≠ 0) : bl g ≤ bl a := by
  obtain ⟨q, rfl⟩ := h
  have hg : g ≠ 0 := by intro e; subst e; exact ha (zero_mulp q q (Nat.le_refl _))
  have hq : q ≠ 0 := by intro e; subst e; exact ha (mulp_zero g)
  have := (blm hg hq).2
  have := bl_pos hq
  omega
end Go.Proofs.Ytkepnjdomlfpdaa
