/-
  Plain arithmetic: many steps of a congruence at once. Conditions stand in each lemma. No Go program here.
-/
import Derived.Test.YthkgaldpajnjgaaC6
namespace Go.Proofs.Ythkgaldpajnjgaa
set_option linter.unusedVariables false

/-- Both steps in one: the factor and the addend. -/
def thF (m f1 f2 : Int) : Int := f1 * f2 % m
def thA (m a1 f2 a2 : Int) : Int := stp m f2 a2 a1
/-- n steps from x. -/
def it (m f a : Int) : Nat → Int → Int
  | 0, x => x
  | n + 1, x => stp m f a (it m f a n x)
def pF (m f : Int) (n : Nat) : Int := f ^ n % m
def pA (m f a : Int) (n : Nat) : Int := it m f a n 0

theorem emod_eq_of {a b m c : Int} (h : a - b = m * c) : a % m = b % m :=
  Int.emod_eq_emod_iff_emod_sub_eq_zero.2 (Int.emod_eq_zero_of_dvd ⟨c, h⟩)
theorem it_bd {m f a : Int} (hm : 2 ≤ m) : ∀ (n : Nat) {x : Int}, 0 ≤ x → x ≤ m - 1 → 0 ≤ it m f a n x ∧ it m f a n x ≤ m - 1
  | 0, x, h, h' => ⟨h, h'⟩
  | n + 1, x, h, h' => stp_bd hm
theorem it_add (m f a : Int) (i : Nat) : ∀ (j : Nat) (x : Int), it m f a (i + j) x = it m f a j (it m f a i x)
  | 0, x => rfl
  | j + 1, x => by
    show stp m f a (it m f a (i + j) x) = stp m f a (it m f a j (it m f a i x))
    rw [it_add m f a i j x]
theorem it_affine {m f a : Int} (hm : 2 ≤ m) : ∀ (n : Nat) {x : Int}, 0 ≤ x → x ≤ m - 1 → it m f a n x = (pF m f n * x + pA m f a n) % m
  | 0, x, h, h' => by
    show x = (f ^ 0 % m * x + 0) % m
    rw [Int.pow_zero, Int.emod_eq_of_lt (by omega) (show (1 : Int) < m by omega), Int.one_mul, Int.add_zero, Int.emod_eq_of_lt h (by omega)]
  | n + 1, x, h, h' => by
    have i1 := it_affine hm n h h' (f := f) (a := a)
    show stp m f a (it m f a n x) = (f ^ (n + 1) % m * x + (f * pA m f a n + a) % m) % m
    rw [i1, Int.pow_succ]
    unfold stp pF
    generalize f ^ n = P
    generalize pA m f a n = A
    rw [Int.emod_def P m, Int.emod_def (_ * x + A) m, Int.emod_def (P * f) m, Int.emod_def (f * A + a) m]
    generalize P / m = p
    generalize ((P - m * p) * x + A) / m = q
    generalize (P * f) / m = q2
    generalize (f * A + a) / m = p2
    refine emod_eq_of (c := - f * q - f * p * x + q2 * x + p2) ?_
    grind
theorem pF_bd {m f : Int} (hm : 2 ≤ m) (n : Nat) : 0 ≤ pF m f n ∧ pF m f n ≤ m - 1 := by
  have h1 := Int.emod_nonneg (f ^ n) (show m ≠ 0 by omega)
  have h2 := Int.emod_lt_of_pos (f ^ n) (show 0 < m by omega)
  unfold pF; omega
theorem pA_bd {m f a : Int} (hm : 2 ≤ m) (n : Nat) : 0 ≤ pA m f a n ∧ pA m f a n ≤ m - 1 := it_bd hm n (Int.le_refl 0) (by omega)
theorem pF_add {m f : Int} (i j : Nat) : thF m (pF m f i) (pF m f j) = pF m f (i + j) := by
  unfold thF pF
  rw [← Int.mul_emod, ← Int.pow_add]
theorem pA_add {m f a : Int} (hm : 2 ≤ m) (i j : Nat) : thA m (pA m f a i) (pF m f j) (pA m f a j) = pA m f a (i + j) := by
  have h := pA_bd hm i (f := f) (a := a)
  show (pF m f j * pA m f a i + pA m f a j) % m = _
  rw [← it_affine hm j h.1 h.2]
  exact (it_add m f a i j 0).symm
theorem pow_vc {m f a : Int} (hm : 2 ≤ m ∧ m ≤ 100000) (n : Nat) : vcB m (pF m f n) (pA m f a n) = true := by
  have h1 := pF_bd hm.1 n (f := f)
  have h2 := pA_bd hm.1 n (f := f) (a := a)
  simp [vcB, inR_mk hm.1 hm.2, inR_mk h1.1 h1.2, inR_mk h2.1 h2.2]
theorem pF_zero {m f : Int} (hm : 2 ≤ m) : pF m f 0 = 1 := by
  unfold pF; rw [Int.pow_zero]; exact Int.emod_eq_of_lt (by omega) (by omega)
theorem pF_one {m f : Int} (h0 : 0 ≤ f) (h1 : f ≤ m - 1) : pF m f 1 = f := by
  unfold pF; rw [Int.pow_succ, Int.pow_zero, Int.one_mul]; exact Int.emod_eq_of_lt h0 (by omega)
theorem pA_zero (m f a : Int) : pA m f a 0 = 0 := rfl
theorem pA_one {m f a : Int} (h0 : 0 ≤ a) (h1 : a ≤ m - 1) : pA m f a 1 = a := by
  show (f * 0 + a) % m = a
  rw [Int.mul_zero, Int.zero_add]; exact Int.emod_eq_of_lt h0 (by omega)
theorem dbl_odd {k J N : Nat} {r : Int} (h : (k : Int) + J * r = N) (hr : r % 2 = 1) : ((k + J : Nat) : Int) + ((J + J : Nat) : Int) * (r / 2) = N := by
  have e : r = 2 * (r / 2) + 1 := by omega
  have e2 : (J : Int) * r = J * (2 * (r / 2)) + J := by
    conv => lhs; rw [e]
    rw [Int.mul_add, Int.mul_one]
  have e3 : ((J + J : Nat) : Int) * (r / 2) = J * (2 * (r / 2)) := by
    rw [Int.natCast_add, Int.add_mul, show (2 : Int) * (r / 2) = r / 2 + r / 2 by omega, Int.mul_add]
  rw [e3, Int.natCast_add]; omega
theorem dbl_even {k J N : Nat} {r : Int} (h : (k : Int) + J * r = N) (hr : r % 2 = 0) : ((k : Nat) : Int) + ((J + J : Nat) : Int) * (r / 2) = N := by
  have e : r = 2 * (r / 2) := by omega
  have e3 : ((J + J : Nat) : Int) * (r / 2) = J * (2 * (r / 2)) := by
    rw [Int.natCast_add, Int.add_mul, show (2 : Int) * (r / 2) = r / 2 + r / 2 by omega, Int.mul_add]
  rw [e3, ← e]; exact h
end Go.Proofs.Ythkgaldpajnjgaa
