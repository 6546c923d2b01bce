/-
  Fractions in lowest terms: sums, products; plain laws. No program.
-/
import Derived.Test.YthkmhpkoanmbkaaDoorC7
namespace Go.Proofs.YthkmhpkoanmbkaaDoor
set_option linter.unusedVariables false

theorem gcdI_abs (n d : Int) (hd : 0 ≤ d) : gcdI (absI n) d = ((Nat.gcd n.natAbs d.natAbs : Nat) : Int) := by
  obtain ⟨e, rfl⟩ := Int.eq_ofNat_of_zero_le hd
  simp [gcdI, absI]
/-- Coprime. -/
def CopI (n d : Int) : Prop := Nat.gcd n.natAbs d.natAbs = 1
theorem CopI.of {n d : Int} (hd : 0 ≤ d) (h : gcdI (absI n) d = 1) : CopI n d := by
  rw [gcdI_abs n d hd] at h
  unfold CopI; omega
theorem CopI.to {n d : Int} (hd : 0 ≤ d) (h : CopI n d) : gcdI (absI n) d = 1 := by
  rw [gcdI_abs n d hd, h]; rfl
/-- The same fraction, and in lowest terms. -/
theorem red_factor {n d N D : Int} (hd : 0 < d) (hD : 0 < D) (hg : CopI n d) (h : N * d = n * D) : ∃ k : Int, 0 < k ∧ N = n * k ∧ D = d * k ∧ gcdI (absI N) D = k := by
  have h1 : d.natAbs ∣ n.natAbs * D.natAbs := by
    rw [← Int.natAbs_mul, ← h, Int.natAbs_mul]
    exact Nat.dvd_mul_left _ _
  have h2 : d.natAbs ∣ D.natAbs := Nat.Coprime.dvd_of_dvd_mul_left (Nat.Coprime.symm hg) h1
  obtain ⟨k, hk⟩ := h2
  have hDk : D = d * (k : Int) := by
    have e1 : (D.natAbs : Int) = D := Int.natAbs_of_nonneg (by omega)
    have e2 : (d.natAbs : Int) = d := Int.natAbs_of_nonneg (by omega)
    rw [← e1, hk, Int.natCast_mul, e2]
  have hNk : N = n * (k : Int) := by
    have : N * d = (n * (k : Int)) * d := by rw [h, hDk, Int.mul_assoc, Int.mul_comm d]
    exact Int.eq_of_mul_eq_mul_right (by omega) this
  have hk0 : 0 < (k : Int) := by
    by_cases c : k = 0
    · subst c; simp at hDk; omega
    · omega
  refine ⟨k, hk0, hNk, hDk, ?_⟩
  rw [gcdI_abs N D (by omega), hNk, hDk, Int.natAbs_mul, Int.natAbs_mul, Int.natAbs_natCast, Nat.gcd_mul_right, hg, Nat.one_mul]
theorem red_unique {n d N D : Int} (hd : 0 < d) (hD : 0 < D) (hg : CopI n d) (h : N * d = n * D) : N.tdiv (gcdI (absI N) D) = n ∧ D / gcdI (absI N) D = d := by
  obtain ⟨k, k0, e1, e2, e3⟩ := red_factor hd hD hg h
  rw [e3, e1, e2]
  exact ⟨Int.mul_tdiv_cancel _ (by omega), Int.mul_ediv_cancel _ (by omega)⟩
/-- Every fraction has lowest terms. -/
theorem red_exists {N D : Int} (hD : 0 < D) : ∃ n d k : Int, 0 < d ∧ 0 < k ∧ N = n * k ∧ D = d * k ∧ CopI n d ∧ gcdI (absI N) D = k ∧ N.tdiv k = n ∧ D / k = d := by
  have hg0 : 0 < Nat.gcd N.natAbs D.natAbs := Nat.gcd_pos_of_pos_right _ (by omega)
  obtain ⟨g, hg⟩ : ∃ g, Nat.gcd N.natAbs D.natAbs = g := ⟨_, rfl⟩
  have d1 := Nat.gcd_dvd_left N.natAbs D.natAbs
  have d2 := Nat.gcd_dvd_right N.natAbs D.natAbs
  rw [hg] at d1 d2 hg0
  have d1' : (g : Int) ∣ N := Int.ofNat_dvd_left.2 d1
  have d2' : (g : Int) ∣ D := Int.ofNat_dvd_left.2 d2
  obtain ⟨n, hn⟩ := d1'
  obtain ⟨d, hd⟩ := d2'
  have hd0 : 0 < d := by
    by_cases c : 0 < d
    · exact c
    · have : (g : Int) * d ≤ 0 := Int.mul_nonpos_of_nonneg_of_nonpos (by omega) (by omega)
      omega
  have hc : CopI n d := by
    have e := hg
    rw [hn, hd, Int.natAbs_mul, Int.natAbs_mul, Int.natAbs_natCast, Nat.gcd_mul_left] at e
    exact Nat.eq_of_mul_eq_mul_left hg0 (by rw [e, Nat.mul_one])
  refine ⟨n, d, g, hd0, by omega, by rw [hn, Int.mul_comm], by rw [hd, Int.mul_comm], hc, ?_, ?_, ?_⟩
  · rw [gcdI_abs N D (by omega), hg]
  · rw [hn]; exact Int.mul_tdiv_cancel_left _ (by omega)
  · rw [hd]; exact Int.mul_ediv_cancel_left _ (by omega)
theorem CopI.dvd {n d n' d' : Int} (h : CopI n d) (h1 : n' ∣ n) (h2 : d' ∣ d) : CopI n' d' := by
  unfold CopI at *
  exact Nat.Coprime.coprime_dvd_left (Int.natAbs_dvd_natAbs.2 h1) (Nat.Coprime.coprime_dvd_right (Int.natAbs_dvd_natAbs.2 h2) h)
theorem CopI.mul_right {n d e : Int} (h1 : CopI n d) (h2 : CopI n e) : CopI n (d * e) := by
  unfold CopI at *
  rw [Int.natAbs_mul]
  exact Nat.Coprime.mul_right h1 h2
theorem CopI.symm {n d : Int} (h : CopI n d) : CopI d n := by unfold CopI at *; rw [Nat.gcd_comm]; exact h
theorem CopI.mul_left {n m d : Int} (h1 : CopI n d) (h2 : CopI m d) : CopI (n * m) d := (CopI.mul_right h1.symm h2.symm).symm
theorem CopI.neg {n d : Int} (h : CopI n d) : CopI (-n) d := by unfold CopI at *; rwa [Int.natAbs_neg]
/-- No common prime: by divisors. -/
theorem CopI.intro {n d : Int} (h : ∀ p : Nat, (p : Int) ∣ n → (p : Int) ∣ d → p = 1) : CopI n d :=
  h _ (Int.ofNat_dvd_left.2 (Nat.gcd_dvd_left _ _)) (Int.ofNat_dvd_left.2 (Nat.gcd_dvd_right _ _))
theorem CopI.elim {n d : Int} (h : CopI n d) {p : Nat} (h1 : (p : Int) ∣ n) (h2 : (p : Int) ∣ d) : p = 1 := by
  have := Nat.dvd_gcd (Int.ofNat_dvd_left.1 h1) (Int.ofNat_dvd_left.1 h2)
  rw [h] at this
  exact Nat.eq_one_of_dvd_one this
theorem CopI.dvd_of_mul {n d x : Int} (h : CopI n d) (hx : n ∣ d * x) : n ∣ x := by
  have h1 : n.natAbs ∣ d.natAbs * x.natAbs := by rw [← Int.natAbs_mul]; exact Int.natAbs_dvd_natAbs.2 hx
  exact Int.natAbs_dvd_natAbs.1 (Nat.Coprime.dvd_of_dvd_mul_left h h1)
/-- Sum of fractions: the numerator has no factor of the first cofactor. -/
theorem cop_sum {n d e1 m d1 : Int} (h1 : CopI n d) (h2 : d1 ∣ d) (h3 : CopI e1 d1) : CopI (n * e1 + m * d1) d1 := by
  refine CopI.intro fun p hp hd => ?_
  have a1 : (p : Int) ∣ n * e1 := (Int.dvd_iff_dvd_of_dvd_add hp).2 (Int.dvd_mul_of_dvd_right hd)
  have a2 : CopI (p : Int) e1 := (h3.dvd (Int.dvd_refl _) hd).symm
  have a3 : (p : Int) ∣ n := CopI.dvd_of_mul a2 (by rw [Int.mul_comm]; exact a1)
  exact h1.elim a3 (Int.dvd_trans hd h2)
theorem pos_of_mul {x y z : Int} (h : 0 < x) (e : x = y * z) (hz : 0 < z) : 0 < y := by
  by_cases c : 0 < y
  · exact c
  · have := Int.mul_nonpos_of_nonpos_of_nonneg (show y ≤ 0 by omega) (show 0 ≤ z by omega); omega
/-- The reference's sum of two fractions, in lowest terms. -/
theorem add_red {n d m e : Int} (hd : 0 < d) (he : 0 < e) (h1 : CopI n d) (h2 : CopI m e) {c d1 e1 t b q c1 : Int} (hc : 0 < c) (e2 : d = d1 * c) (e3 : e = e1 * c) (h3 : CopI d1 e1) (ht : t = n * e1 + m * d1)
    (hb : 0 < b) (e4 : t = q * b) (e5 : c = c1 * b) (h4 : CopI q c1) :
    CopI q (d1 * (c1 * e1)) ∧ (n * e + m * d) * (d1 * (c1 * e1)) = q * (d * e) ∧ 0 < d1 * (c1 * e1) ∧ e / b = c1 * e1 := by
  have d10 : 0 < d1 := pos_of_mul hd e2 hc
  have e10 : 0 < e1 := pos_of_mul he e3 hc
  have c10 : 0 < c1 := pos_of_mul hc e5 hb
  have a1 : CopI t d1 := by rw [ht]; exact cop_sum h1 ⟨c, e2⟩ h3.symm
  have a2 : CopI t e1 := by rw [ht, Int.add_comm]; exact cop_sum h2 ⟨c, e3⟩ h3
  have q1 : q ∣ t := ⟨b, e4⟩
  refine ⟨CopI.mul_right (a1.dvd q1 (Int.dvd_refl _)) (CopI.mul_right h4 (a2.dvd q1 (Int.dvd_refl _))), ?_, Int.mul_pos d10 (Int.mul_pos c10 e10), ?_⟩
  · have : n * e + m * d = c * (q * b) := by rw [← e4, ht, e2, e3]; grind
    rw [this, e2, e3, e5]; grind
  · rw [e3, e5, show e1 * (c1 * b) = (c1 * e1) * b by grind]
    exact Int.mul_ediv_cancel _ (by omega)
/-- The reference's product of two fractions, in lowest terms. -/
theorem mul_red {n d m e : Int} (hd : 0 < d) (he : 0 < e) (h1 : CopI n d) (h2 : CopI m e) {n1 e1 g m1 d1 h : Int} (hg : 0 < g) (hh : 0 < h) (e2 : n = n1 * g) (e3 : e = e1 * g) (e4 : m = m1 * h) (e5 : d = d1 * h) (c1 : CopI n1 e1) (c2 : CopI m1 d1) :
    CopI (n1 * m1) (e1 * d1) ∧ (n * m) * (e1 * d1) = (n1 * m1) * (d * e) := by
  refine ⟨CopI.mul_left (CopI.mul_right c1 (h1.dvd ⟨g, e2⟩ ⟨h, e5⟩)) (CopI.mul_right (h2.dvd ⟨h, e4⟩ ⟨g, e3⟩) c2), ?_⟩
  rw [e2, e3, e4, e5]; grind
end Go.Proofs.YthkmhpkoanmbkaaDoor
