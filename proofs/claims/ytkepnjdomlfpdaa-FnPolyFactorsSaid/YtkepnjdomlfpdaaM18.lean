/-
  Powers of x modulo a polynomial; what trial division finds; the greatest common divisor divides. Plain numbers, no program.
-/
import Derived.Test.YtkepnjdomlfpdaaM17
import Derived.Test.YtkepnjdomlfpdaaM6
import Derived.Test.YtkepnjdomlfpdaaM7
namespace Go.Proofs.Ytkepnjdomlfpdaa
set_option linter.unusedVariables false

/-- A plain power. -/
def gp (s : Nat) : Nat → Nat
  | 0 => 1
  | n + 1 => mulp s (gp s n)
theorem gp_two : ∀ n, gp 2 n = 2 ^ n
  | 0 => rfl
  | n + 1 => by rw [gp, gp_two n, mulpC, show 2 = 1 * 2 from rfl, mulp_dbl, mulp_one, Nat.pow_succ]
theorem gp_double (s : Nat) : ∀ n, gp (mulp s s) n = gp s (2 * n)
  | 0 => rfl
  | n + 1 => by rw [gp, gp_double s n, show 2 * (n + 1) = 2 * n + 1 + 1 from rfl, gp, gp, mulpA]
theorem gp_md {p : Nat} (hp : 0 < p) (s : Nat) : ∀ n, md p (gp (md p s) n) = md p (gp s n)
  | 0 => rfl
  | n + 1 => by rw [gp, gp, ← md_congr hp, gp_md hp s n, md_congr2 hp]
theorem pw_gp {p : Nat} (hp : 0 < p) : ∀ (k n o s : Nat), n ≤ k → md p o = o → pw p n o s = md p (mulp o (gp s n))
  | k, n, o, s, hn, ho => by
    by_cases h0 : n = 0
    · subst h0
      rw [pw_end, gp, mulp_one, ho]
    · match k with
      | 0 => omega
      | k + 1 =>
        have e0 : gp s n = if n % 2 = 1 then mulp s (gp (mulp s s) (n / 2)) else gp (mulp s s) (n / 2) := by
          rw [gp_double]
          split
          · rename_i h
            conv => lhs; rw [show n = 2 * (n / 2) + 1 by omega]
            rw [gp]
          · rw [show 2 * (n / 2) = n by omega]
        have hm : ∀ a, md p (md p a) = md p a := fun a => md_small (md_res hp a)
        by_cases h : n % 2 = 1
        · rw [pw_odd h]
          show pw p (n / 2) (md p (mulp o s)) (md p (mulp s s)) = _
          rw [pw_gp hp k (n / 2) _ _ (by omega) (hm _), e0, if_pos h, md_congrL hp, ← md_congr hp, gp_md hp, md_congr hp, mulpA]
        · rw [pw_even h0 h]
          show pw p (n / 2) o (md p (mulp s s)) = _
          rw [pw_gp hp k (n / 2) _ _ (by omega) ho, e0, if_neg h, ← md_congr hp, gp_md hp, md_congr hp]
/-- The remainder of a power of x. -/
theorem pw_x {p : Nat} (hp : 0 < p) (n : Nat) : pw p n (dv p 0 1).2 (dv p 0 2).2 = md p (2 ^ n) := by
  have hm : ∀ a, md p (md p a) = md p a := fun a => md_small (md_res hp a)
  show pw p n (md p 1) (md p 2) = _
  rw [pw_gp hp n n _ _ (Nat.le_refl _) (hm _), ← md_congr hp, gp_md hp, md_congr2 hp, gp_two, mulpC, mulp_one]
theorem xo_x {p : Nat} (hp : 2 ≤ p) : ∀ n, xo p n = md p (2 ^ n)
  | 0 => by
    have := bl_two_le hp
    rw [xo, Nat.pow_zero, md_small (by rw [bl_one]; omega)]
  | n + 1 => by
    show md p (xo p n * 2) = _
    rw [xo_x hp n, Nat.pow_succ, ← mulp_one (md p (2 ^ n)), ← mulp_dbl, mulpC, Nat.one_mul, md_congr (by omega), mulpC, show 2 = 1 * 2 from rfl, mulp_dbl, mulp_one]
/-- Exponents add up. -/
theorem md_pow_add {p : Nat} (hp : 0 < p) (n m : Nat) : md p (mulp (md p (2 ^ n)) (md p (2 ^ m))) = md p (2 ^ (n + m)) := by
  rw [md_congr2 hp, mulp_pow, Nat.pow_add]
/-- The greatest common divisor divides. -/
theorem gcp_dvd : ∀ (n a b : Nat), b ≤ n → Dvp (gcp a b) a ∧ Dvp (gcp a b) b
  | n, a, b, hn => by
    by_cases h : 0 < b
    · match n with
      | 0 => omega
      | n + 1 =>
        have l := dv_rest_lt (b := b) (a := a) 0 h
        obtain ⟨h1, h2⟩ := gcp_dvd n b (dv b 0 a).2 (by omega)
        rw [gcp_go h]
        refine ⟨?_, h1⟩
        have e := md_sum h a
        have := (h1.mulp (qt b a)).xor h2
        unfold md at e
        rw [e] at this
        exact this
    · obtain rfl : b = 0 := by omega
      rw [gcp_end]
      exact ⟨Dvp.refl a, ⟨0, (mulp_zero a).symm⟩⟩
theorem Dvp.pos {g a : Nat} (h : Dvp g a) (ha : a ≠ 0) : 0 < g := by
  obtain ⟨q, rfl⟩ := h
  by_cases c : 0 < g
  · exact c
  · obtain rfl : g = 0 := by omega
    exact absurd (zero_mulp q q (Nat.le_refl _)) ha
/-- No divisors between. -/
theorem fc_alone {p : Nat} (hp : 2 ≤ p) : ∀ (k f : Nat), 2 ≤ f → f + k = p → (∀ g, f ≤ g → g < p → ¬ Dvp g p) → fc f p = [p]
  | 0, f, h2, hk, hd => by
    obtain rfl : f = p := by omega
    by_cases h : bl f + 1 < 2 * bl f
    · exact fc_last (by omega) h
    · have := bl_two_le h2
      omega
  | k + 1, f, h2, hk, hd => by
    by_cases h : bl p + 1 < 2 * bl f
    · exact fc_last (by omega) h
    · rw [fc_no (by omega) h h2 (fun c => hd f (Nat.le_refl _) (by omega) ((dvp_iff (by omega)).1 c))]
      exact fc_alone hp k (f + 1) (by omega) (by omega) (fun g h1 h3 => hd g (by omega) h3)
/-- From a place on where the condition to stop holds already. -/
theorem fc_stop {p : Nat} (hp : 2 ≤ p) : ∀ (k f F : Nat), 2 ≤ f → f + k = F → bl p + 1 < 2 * bl F → (∀ g, f ≤ g → g < F → ¬ Dvp g p) → fc f p = [p]
  | 0, f, F, h2, hk, hF, hd => by
    obtain rfl : f = F := by omega
    exact fc_last (by omega) hF
  | k + 1, f, F, h2, hk, hF, hd => by
    by_cases h : bl p + 1 < 2 * bl f
    · exact fc_last (by omega) h
    · rw [fc_no (by omega) h h2 (fun c => hd f (Nat.le_refl _) (by omega) ((dvp_iff (by omega)).1 c))]
      exact fc_stop hp k (f + 1) F (by omega) (by omega) hF (fun g h1 h3 => hd g (by omega) h3)
/-- What trial division finds. -/
structure FcOk (f p : Nat) (l : List Nat) : Prop where
  each : ∀ g ∈ l, f ≤ g ∧ fc 2 g = [g] ∧ Dvp g p
  up : ∀ i, i + 1 < l.length → l.getD i 0 ≤ l.getD (i + 1) 0
  all : ∀ w, l.foldl mulp w = mulp w p
theorem fc_ok (f p : Nat) : 2 ≤ f → 1 ≤ p → (∀ g, 2 ≤ g → g < f → ¬ Dvp g p) → FcOk f p (fc f p) := by
  induction f, p using fc.induct with
  | case1 f p h1 =>
    intro h2 hp hd
    obtain rfl : p = 1 := by omega
    rw [fc_end (by omega)]
    exact ⟨fun g hg => (by cases hg), fun i hi => (by simp at hi), fun w => by simp [mulp_one]⟩
  | case2 f p h1 h2 =>
    intro hf hp hd
    rw [fc_last h1 h2]
    refine ⟨fun g hg => ?_, fun i hi => (by simp at hi), fun w => by simp⟩
    obtain rfl : g = p := by simpa using hg
    refine ⟨?_, fc_stop (by omega) (f - 2) 2 f (by omega) (by omega) h2 hd, Dvp.refl g⟩
    by_cases c : f ≤ g
    · exact c
    · exact absurd (Dvp.refl g) (hd g (by omega) (by omega))
  | case3 f p h1 h2 h3 =>
    intro hf
    omega
  | case4 f p h1 h2 h3 h4 ih =>
    intro hf hp hd
    rw [fc_yes h1 h2 hf h4]
    have hq := dv_q_pos (f := f) (p := p) (by omega) (by omega) h4
    have hs : mulp f (dv f 0 p).1 = p := by
      have := md_sum (p := f) (by omega) p
      unfold md qt at this
      rw [h4, Nat.xor_zero] at this
      exact this
    have hdv : Dvp (dv f 0 p).1 p := ⟨f, by rw [mulpC]; exact hs.symm⟩
    have H := ih hf hq (fun g g1 g2 c => hd g g1 g2 (c.trans hdv))
    have hfp : Dvp f p := ⟨_, hs.symm⟩
    refine ⟨fun g hg => ?_, fun i hi => ?_, fun w => ?_⟩
    · rcases List.mem_cons.1 hg with rfl | hg
      · exact ⟨Nat.le_refl _, fc_alone hf (g - 2) 2 (by omega) (by omega) (fun h g1 g2 c => hd h g1 g2 (c.trans hfp)), hfp⟩
      · obtain ⟨a1, a2, a3⟩ := H.each g hg
        exact ⟨a1, a2, a3.trans hdv⟩
    · cases i with
      | zero =>
        simp only [List.length_cons] at hi
        have hm : (fc f (dv f 0 p).1).getD 0 0 ∈ fc f (dv f 0 p).1 := by
          rw [List.getD_eq_getElem?_getD, List.getElem?_eq_getElem (by omega)]
          simp
        have := (H.each _ hm).1
        simpa using this
      | succ i =>
        have := H.up i (by simpa using hi)
        simpa using this
    · rw [List.foldl_cons, H.all, mulpA, hs]
  | case5 f p h1 h2 h3 h4 ih =>
    intro hf hp hd
    rw [fc_no h1 h2 hf h4]
    have H := ih (by omega) hp (fun g g1 g2 c => by
      by_cases e : g = f
      · subst e; exact h4 ((dvp_iff (by omega)).2 c)
      · exact hd g g1 (by omega) c)
    exact ⟨fun g hg => by
      obtain ⟨a1, a2, a3⟩ := H.each g hg
      exact ⟨by omega, a2, a3⟩, H.up, H.all⟩
/-- The product of the first factors divides the whole. -/
theorem foldl_dvp : ∀ (l : List Nat) (w i : Nat), Dvp ((l.take i).foldl mulp w) (l.foldl mulp w)
  | [], w, i => by simp; exact Dvp.refl w
  | a :: l, w, 0 => by
    simp only [List.take_zero, List.foldl_nil, List.foldl_cons]
    have h := foldl_dvp l (mulp w a) 0
    simp only [List.take_zero, List.foldl_nil] at h
    exact (Dvp.trans ⟨a, rfl⟩ h)
  | a :: l, w, i + 1 => by
    simp only [List.take_succ_cons, List.foldl_cons]
    exact foldl_dvp l (mulp w a) i
end Go.Proofs.Ytkepnjdomlfpdaa
