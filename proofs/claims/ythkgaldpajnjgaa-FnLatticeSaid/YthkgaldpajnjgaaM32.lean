/-
  What FnLattice asks of a shortest point and a shortest wave, and why it holds. Plain numbers, no program.
-/
import Derived.Test.YthkgaldpajnjgaaP9
namespace Go.Proofs.Ythkgaldpajnjgaa
open Go.RowKit
set_option linter.unusedVariables false

/-- The elements with the powers that begin with P. -/
def lin (m f : Int) : Int → List Int → Int
  | _, [] => 0
  | P, t :: ts => P * t + lin m f (P * f % m) ts
theorem dvd_sub_mod (m x : Int) : m ∣ x - x % m := ⟨x / m, by have := Int.emod_add_mul_ediv x m; omega⟩
theorem lin_wv (m f : Int) : ∀ (ts : List Int) (P s : Int), m ∣ (ts.foldl (wst m f) (P, s)).2 - (s + lin m f P ts)
  | [], P, s => by simp [lin]
  | t :: ts, P, s => by
    have h := lin_wv m f ts (P * f % m) ((s + P * (t % m)) % m)
    have h1 := dvd_sub_mod m (s + P * (t % m))
    have h2 : m ∣ P * (t - t % m) := Int.dvd_mul_of_dvd_right (dvd_sub_mod m t)
    simp only [List.foldl_cons, wst, lin] at h ⊢
    have e : (List.foldl (wst m f) (P * f % m, (s + P * (t % m)) % m) ts).2 - (s + (P * t + lin m f (P * f % m) ts)) =
        ((List.foldl (wst m f) (P * f % m, (s + P * (t % m)) % m) ts).2 - ((s + P * (t % m)) % m + lin m f (P * f % m) ts)) - ((s + P * (t % m)) - (s + P * (t % m)) % m) - P * (t - t % m) := by
      rw [Int.mul_sub]; omega
    rw [e]
    exact Int.dvd_sub (Int.dvd_sub h h1) h2
theorem wv_lin (m f : Int) (ts : List Int) : m ∣ (wv m f ts).2 - lin m f f ts := by
  have h := lin_wv m f ts f 0
  simpa [wv] using h
theorem IsWv.dvd {m f x : Int} {xs : List Int} (h : IsWv m f x xs) : m ∣ x + lin m f f xs := by
  have h1 : m ∣ x + (wv m f xs).2 := Int.dvd_of_emod_eq_zero h
  have h2 := Int.dvd_sub h1 (wv_lin m f xs)
  rwa [show x + (wv m f xs).2 - ((wv m f xs).2 - lin m f f xs) = x + lin m f f xs by omega] at h2
theorem small_mul {m d : Int} (hm : 0 < m) (h : m ∣ d) (h1 : -(2 * m) < d) (h2 : d < m) : d = 0 ∨ d = -m := by
  obtain ⟨k, rfl⟩ := h
  have k1 : k < 1 := by
    refine Int.not_le.1 fun hc => ?_
    have := Int.mul_le_mul_of_nonneg_left hc (show 0 ≤ m by omega)
    omega
  have k2 : -2 < k := by
    refine Int.not_le.1 fun hc => ?_
    have := Int.mul_le_mul_of_nonneg_left hc (show 0 ≤ m by omega)
    omega
  have k3 : k = 0 ∨ k = -1 := by omega
  rcases k3 with rfl | rfl
  · left; simp
  · right; simp
theorem tried_of {m f x : Int} {ts : List Int} (hm : 2 ≤ m) (h1 : -m < x) (h2 : x < m) (h : m ∣ x + lin m f f ts) : Tried m f x ts := by
  have hb := wf_bd (f := f) hm ts
  have h3 : m ∣ wf m f ts + (wv m f ts).2 := by
    have := dvd_sub_mod m (-(wv m f ts).2)
    have h4 := Int.dvd_neg.2 this
    rwa [show -(-(wv m f ts).2 - -(wv m f ts).2 % m) = wf m f ts + (wv m f ts).2 by unfold wf; omega] at h4
  have h5 : m ∣ x - wf m f ts := by
    have := Int.dvd_sub (Int.dvd_add h (wv_lin m f ts)) h3
    rwa [show x + lin m f f ts + ((wv m f ts).2 - lin m f f ts) - (wf m f ts + (wv m f ts).2) = x - wf m f ts by omega] at this
  rcases small_mul (by omega) h5 (by omega) (by omega) with h6 | h6
  · right; left; omega
  · left; omega
theorem lin_neg (m f : Int) : ∀ (ts : List Int) (P : Int), lin m f P (ts.map fun t => -t) = -lin m f P ts
  | [], P => by simp [lin]
  | t :: ts, P => by simp only [List.map_cons, lin, lin_neg m f ts, Int.mul_neg]; omega
theorem sqs_neg : ∀ ts : List Int, sqs (ts.map fun t => -t) = sqs ts
  | [] => rfl
  | t :: ts => by simp only [List.map_cons, sqs, sqs_neg ts, Int.neg_mul_neg]
/-- A list of zeros, a list whose first other element is positive, or its negation is one. -/
theorem three_ways : ∀ xs : List Int, sqs xs = 0 ∨ Pos xs ∨ Pos (xs.map fun t => -t)
  | [] => .inl rfl
  | x :: xs => by
    rcases Int.lt_trichotomy x 0 with h | h | h
    · right; right
      exact ⟨0, by simp, by show 0 < -x; omega, fun j hj => by omega⟩
    · subst h
      rcases three_ways xs with h | ⟨k, h1, h2, h3⟩ | ⟨k, h1, h2, h3⟩
      · left; simp only [sqs]; omega
      · right; left
        refine ⟨k + 1, by simp; exact h1, by simpa using h2, fun j hj => ?_⟩
        cases j with
        | zero => rfl
        | succ j => simpa using h3 j (by omega)
      · right; right
        refine ⟨k + 1, by simpa using h1, by simpa using h2, fun j hj => ?_⟩
        cases j with
        | zero => rfl
        | succ j => simpa using h3 j (by omega)
    · right; left
      exact ⟨0, by simp, by show 0 < x; omega, fun j hj => by omega⟩
theorem wave_law {K : Nat} {m f x : Int} {ts ys : List Int} (hm : 2 ≤ m) (hl : LeastWv K m f ys) (hK : ts.length = K) (h1 : -m < x) (h2 : x < m) (h : m ∣ x + lin m f f ts) : sqs (x :: ts) = 0 ∨ sqs ys ≤ sqs (x :: ts) := by
  rcases three_ways (x :: ts) with h0 | h0 | h0
  · exact .inl h0
  · right
    have := hl x ts hK (tried_of hm h1 h2 h) h0
    simpa only [sqs] using this
  · right
    have hn : m ∣ -x + lin m f f (ts.map fun t => -t) := by
      rw [lin_neg, show -x + -lin m f f ts = -(x + lin m f f ts) by omega]
      exact Int.dvd_neg.2 h
    have := hl (-x) (ts.map fun t => -t) (by simpa using hK) (tried_of hm (by omega) (by omega) hn) h0
    rw [sqs_neg] at this
    simpa only [sqs, Int.neg_mul_neg] using this
theorem Pos.sq {xs : List Int} (h : Pos xs) : 1 ≤ sqs xs := by
  obtain ⟨k, h1, h2, _⟩ := h
  have h3 := sq_in h1
  have h4 : 1 * 1 ≤ xs.getD k 0 * xs.getD k 0 := Int.mul_le_mul (by omega) (by omega) (by omega) (by omega)
  omega
theorem point_law {dim : Nat} {m f x : Int} {ts ys : List Int} (hm : 2 ≤ m) (hl : LeastPt dim m f ys) (hy : sqs ys ≤ m * m) (hx : 0 ≤ x) (hd : ts.length + 1 = dim) (hF : Foll m f x ts) : sqs (x :: ts) = 0 ∨ sqs ys ≤ sqs (x :: ts) := by
  by_cases h0 : 0 < x
  · right
    have := hl x ts h0 hd hF
    simpa only [sqs] using this
  · have e : x = 0 := by omega
    subst e
    have key : ∀ (ts : List Int) (l : Int), m ∣ l → Foll m f l ts → sqs ts = 0 ∨ m * m ≤ sqs ts := by
      intro ts
      induction ts with
      | nil => intro l _ _; exact .inl rfl
      | cons t ts ih =>
        intro l hml h
        have hn : nx m f l = 0 := by unfold nx; rw [Int.emod_eq_zero_of_dvd hml]; simp
        have h3 := sqs_nonneg ts
        rcases h with ⟨h1 | h1, h2⟩
        · rw [hn] at h1
          subst h1
          rcases ih 0 (Int.dvd_zero m) h2 with h4 | h4
          · left; simp only [sqs]; omega
          · right; simp only [sqs]; omega
        · rw [hn] at h1
          right
          have e : t = -m := by omega
          subst e
          simp only [sqs, Int.neg_mul_neg]; omega
    rcases key ts 0 (Int.dvd_zero m) hF with h | h
    · left; simp only [sqs]; omega
    · right; simp only [sqs]; omega
end Go.Proofs.Ythkgaldpajnjgaa
