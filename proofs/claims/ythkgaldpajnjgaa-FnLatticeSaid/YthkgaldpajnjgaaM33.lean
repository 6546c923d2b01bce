/-
  The states of FnLattice's two loops, and their numbers. Plain numbers, no program.
-/
import Derived.Test.YthkgaldpajnjgaaM32
namespace Go.Proofs.Ythkgaldpajnjgaa
open Go.RowKit
set_option linter.unusedVariables false

theorem w64 {x : Int} (h1 : -1000000000000 ≤ x) (h2 : x ≤ 1000000000000) : wrap64 x = x ∧ IntKind.i64.wrap x = x :=
  ⟨IntWalk.wrap64_in _ ⟨by omega, by omega⟩, by rw [IntKind.wrap_i64]; omega⟩
theorem mul_in {a b A B : Int} (h1 : -A ≤ a) (h2 : a ≤ A) (h3 : -B ≤ b) (h4 : b ≤ B) : -(A * B) ≤ a * b ∧ a * b ≤ A * B := by
  have hA : 0 ≤ A := by omega
  have hB : 0 ≤ B := by omega
  have key : ∀ {a b : Int}, 0 ≤ a → a ≤ A → -B ≤ b → b ≤ B → -(A * B) ≤ a * b ∧ a * b ≤ A * B := by
    intro a b k1 k2 k3 k4
    have e1 : a * b ≤ a * B := Int.mul_le_mul_of_nonneg_left k4 k1
    have e2 : a * (-B) ≤ a * b := Int.mul_le_mul_of_nonneg_left k3 k1
    have e3 : a * B ≤ A * B := Int.mul_le_mul_of_nonneg_right k2 hB
    rw [Int.mul_neg] at e2
    omega
  rcases Int.le_total 0 a with h | h
  · exact key h h2 h3 h4
  · have := key (a := -a) (b := b) (by omega) (by omega) h3 h4
    rw [Int.neg_mul] at this
    omega
theorem pmod {P f m : Int} (hm : 2 ≤ m ∧ m ≤ 100000) (hf : 0 ≤ f ∧ f ≤ m - 1) (hP : 0 ≤ P ∧ P ≤ 100000) :
    0 ≤ P * f ∧ P * f ≤ 10000000000 ∧ (P * f).tmod m = P * f % m ∧ 0 ≤ P * f % m ∧ P * f % m ≤ 100000 := by
  have h1 : 0 ≤ P * f := Int.mul_nonneg hP.1 hf.1
  have h2 : P * f ≤ 100000 * 100000 := Int.mul_le_mul hP.2 (by omega) hf.1 (by omega)
  have h3 := Int.emod_nonneg (P * f) (show m ≠ 0 by omega)
  have h4 := Int.emod_lt_of_pos (P * f) (show 0 < m by omega)
  exact ⟨h1, by omega, Int.tmod_eq_emod_of_nonneg h1, h3, by omega⟩

/-- Behind k rounds of the first loop: the sum, the wave's sum, the power. -/
def lat (m f : Int) (ys ws : List Int) : Nat → Int × Int × Int
  | 0 => (0, 0, 1)
  | k + 1 => ((lat m f ys ws k).1 + ys.getD k 0 * ws.getD k 0, (lat m f ys ws k).2.1 + (lat m f ys ws k).2.2 * ws.getD k 0, (lat m f ys ws k).2.2 * f % m)
theorem lat_bd {m f : Int} {ys ws : List Int} {d : Nat} (hm : 2 ≤ m ∧ m ≤ 100000) (hf : 0 ≤ f ∧ f ≤ m - 1) (h1 : ∀ j, j < d → -100000 ≤ ys.getD j 0 ∧ ys.getD j 0 ≤ 100000) (h2 : ∀ j, j < d → -200000 ≤ ws.getD j 0 ∧ ws.getD j 0 ≤ 200000) :
    ∀ k, k ≤ d → (-(k * 20000000000 : Int) ≤ (lat m f ys ws k).1 ∧ (lat m f ys ws k).1 ≤ k * 20000000000) ∧ (-(k * 20000000000 : Int) ≤ (lat m f ys ws k).2.1 ∧ (lat m f ys ws k).2.1 ≤ k * 20000000000) ∧ 0 ≤ (lat m f ys ws k).2.2 ∧ (lat m f ys ws k).2.2 ≤ 100000
  | 0, _ => by simp [lat]
  | k + 1, hk => by
    obtain ⟨a1, a2, a3⟩ := lat_bd hm hf h1 h2 k (by omega)
    have b1 := h1 k (by omega)
    have b2 := h2 k (by omega)
    have c1 := mul_in b1.1 b1.2 b2.1 b2.2
    have c2 := mul_in (A := 100000) (by omega) a3.2 b2.1 b2.2
    have c3 := pmod hm hf a3
    simp only [lat]
    omega
theorem lat_facts {m f : Int} {ys ws : List Int} {d k : Nat} (hm : 2 ≤ m ∧ m ≤ 100000) (hf : 0 ≤ f ∧ f ≤ m - 1) (h1 : ∀ j, j < d → -100000 ≤ ys.getD j 0 ∧ ys.getD j 0 ≤ 100000) (h2 : ∀ j, j < d → -200000 ≤ ws.getD j 0 ∧ ws.getD j 0 ≤ 200000) (hk : k < d) (hd : d ≤ 3) :
    ∃ p v q S S' u W W' P P' y : Int, (ys.getD k 0 = p ∧ ws.getD k 0 = v ∧ (lat m f ys ws k).1 = S ∧ (lat m f ys ws k).2.1 = W ∧ (lat m f ys ws k).2.2 = P ∧ (lat m f ys ws (k + 1)).1 = S' ∧ (lat m f ys ws (k + 1)).2.1 = W' ∧ (lat m f ys ws (k + 1)).2.2 = P') ∧
      p * v = q ∧ S + q = S' ∧ P * v = u ∧ W + u = W' ∧ P * f = y ∧ y.tmod m = P' ∧
      (wrap64 q = q ∧ IntKind.i64.wrap q = q) ∧ (wrap64 S' = S' ∧ IntKind.i64.wrap S' = S') ∧ (wrap64 u = u ∧ IntKind.i64.wrap u = u) ∧ (wrap64 W' = W' ∧ IntKind.i64.wrap W' = W') ∧ (wrap64 y = y ∧ IntKind.i64.wrap y = y) := by
  obtain ⟨a1, a2, a3⟩ := lat_bd hm hf h1 h2 k (by omega)
  have b1 := h1 k hk
  have b2 := h2 k hk
  have c1 := mul_in b1.1 b1.2 b2.1 b2.2
  have c2 := mul_in (A := 100000) (by omega) a3.2 b2.1 b2.2
  have c3 := pmod hm hf a3
  have hk3 : (k : Int) ≤ 2 := by omega
  refine ⟨_, _, _, _, _, _, _, _, _, _, _, ⟨rfl, rfl, rfl, rfl, rfl, rfl, rfl, rfl⟩, rfl, rfl, rfl, rfl, rfl, c3.2.2.1, w64 (by omega) (by omega), w64 ?_ ?_, w64 (by omega) (by omega), w64 ?_ ?_, w64 (by omega) (by omega)⟩ <;> simp only [lat] <;> omega
/-- A point's element and the one ahead of it. -/
theorem pair_facts {m f : Int} {ys : List Int} {d k : Nat} (hm : 2 ≤ m ∧ m ≤ 100000) (hf : 0 ≤ f ∧ f ≤ m - 1) (h1 : ∀ j, j < d → -100000 ≤ ys.getD j 0 ∧ ys.getD j 0 ≤ 100000) (hp : IsPt m f ys) (hl : ys.length = d) (hk : k + 1 < d) :
    ∃ r g e : Int, ys.getD k 0 = r ∧ f * r = g ∧ ys.getD (k + 1) 0 - g = e ∧ e.tmod m = 0 ∧ (wrap64 g = g ∧ IntKind.i64.wrap g = g) ∧ (wrap64 e = e ∧ IntKind.i64.wrap e = e) := by
  have b1 := h1 k (by omega)
  have b2 := h1 (k + 1) hk
  have c1 := mul_in (a := f) (A := 100000) (by omega) (by omega) b1.1 b1.2
  have c2 := hp k (by omega)
  exact ⟨_, _, _, rfl, rfl, rfl, Int.tmod_eq_zero_of_dvd (Int.dvd_of_emod_eq_zero c2), w64 (by omega) (by omega), w64 (by omega) (by omega)⟩
theorem two_of {xs : List Int} (h : xs.length = 2) : ∃ a b, xs = [a, b] := by
  match xs, h with
  | [a, b], _ => exact ⟨a, b, rfl⟩
theorem three_of {xs : List Int} (h : xs.length = 3) : ∃ a b c, xs = [a, b, c] := by
  match xs, h with
  | [a, b, c], _ => exact ⟨a, b, c, rfl⟩
theorem one_of {xs : List Int} (h : xs.length = 1) : ∃ a, xs = [a] := by
  match xs, h with
  | [a], _ => exact ⟨a, rfl⟩
theorem one_mul_mod {m f : Int} (hf : 0 ≤ f ∧ f ≤ m - 1) : 1 * f % m = f := by rw [Int.one_mul]; exact Int.emod_eq_of_lt hf.1 (by omega)
/-- Both sums are multiples of the modulus. -/
theorem lat_law {m f x : Int} {ys xs : List Int} {d : Nat} (hd : d = 2 ∨ d = 3) (hf : 0 ≤ f ∧ f ≤ m - 1) (hp : IsPt m f ys) (hl : ys.length = d) (hx : xs.length + 1 = d) (hw : IsWv m f x xs) : (lat m f ys (x :: xs) d).1.tmod m = 0 ∧ (lat m f ys (x :: xs) d).2.1.tmod m = 0 := by
  have hv := hw.dvd
  have h1f := one_mul_mod hf
  have h00 := hp 0 (by rcases hd with rfl | rfl <;> omega)
  have p0 := Int.dvd_of_emod_eq_zero h00
  rcases hd with rfl | rfl
  · obtain ⟨y0, y1, rfl⟩ := two_of hl
    obtain ⟨t1, rfl⟩ := one_of (show xs.length = 1 by omega)
    have e1 : (lat m f [y0, y1] [x, t1] 2).1 = y0 * x + y1 * t1 := by simp [lat]
    have e2 : (lat m f [y0, y1] [x, t1] 2).2.1 = x + f * t1 := by simp only [lat]; rw [h1f]; simp
    have e3 : lin m f f [t1] = f * t1 := by simp [lin]
    have p0' : m ∣ y1 - f * y0 := p0
    rw [e3] at hv
    refine ⟨?_, ?_⟩
    · rw [e1]
      refine Int.tmod_eq_zero_of_dvd ?_
      have h2 := Int.dvd_add (Int.dvd_trans hv (Int.dvd_mul_left y0 _)) (Int.dvd_trans p0' (Int.dvd_mul_right _ (t1)))
      have e : y0 * (x + f * t1) + (y1 - f * y0) * t1 = y0 * x + y1 * t1 := by grind
      rwa [e] at h2
    · rw [e2]; exact Int.tmod_eq_zero_of_dvd hv
  · obtain ⟨y0, y1, y2, rfl⟩ := three_of hl
    obtain ⟨t1, t2, rfl⟩ := two_of (show xs.length = 2 by omega)
    have e1 : (lat m f [y0, y1, y2] [x, t1, t2] 3).1 = y0 * x + y1 * t1 + y2 * t2 := by simp [lat]
    have e2 : (lat m f [y0, y1, y2] [x, t1, t2] 3).2.1 = x + f * t1 + (f * f % m) * t2 := by simp only [lat]; rw [h1f]; simp
    have e3 : lin m f f [t1, t2] = f * t1 + (f * f % m) * t2 := by simp [lin]
    have p0' : m ∣ y1 - f * y0 := p0
    have p1' : m ∣ y2 - f * y1 := Int.dvd_of_emod_eq_zero (hp 1 (by simp))
    have p2' : m ∣ f * f - f * f % m := dvd_sub_mod m (f * f)
    rw [e3] at hv
    obtain ⟨Q, hQ⟩ : ∃ Q, f * f % m = Q := ⟨_, rfl⟩
    rw [hQ] at hv e2 p2'
    refine ⟨?_, ?_⟩
    · rw [e1]
      refine Int.tmod_eq_zero_of_dvd ?_
      have h2 := Int.dvd_add (Int.dvd_add (Int.dvd_trans hv (Int.dvd_mul_left y0 _)) (Int.dvd_trans p0' (Int.dvd_mul_right _ (t1 + f * t2)))) (Int.dvd_add (Int.dvd_trans p1' (Int.dvd_mul_right _ (t2))) (Int.dvd_trans p2' (Int.dvd_mul_right _ (y0 * t2))))
      have e : y0 * (x + (f * t1 + Q * t2)) + (y1 - f * y0) * (t1 + f * t2) + ((y2 - f * y1) * t2 + (f * f - Q) * (y0 * t2)) = y0 * x + y1 * t1 + y2 * t2 := by grind
      rwa [e] at h2
    · rw [e2]
      refine Int.tmod_eq_zero_of_dvd ?_
      rwa [Int.add_assoc]
end Go.Proofs.Ythkgaldpajnjgaa
