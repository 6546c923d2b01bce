/-
  Points and waves of a congruence: what an exhaustive search for short ones looks through. Plain numbers, no program.
-/
import Derived.Test.YthkgaldpajnjgaaP2
namespace Go.Proofs.Ythkgaldpajnjgaa
open Go.RowKit
set_option linter.unusedVariables false

/-- The remainder behind the element l. -/
def nx (m f l : Int) : Int := (f * (l % m)) % m
theorem nx_bd {m f l : Int} (h : 0 < m) : 0 ≤ nx m f l ∧ nx m f l < m := ⟨Int.emod_nonneg _ (by omega), Int.emod_lt_of_pos _ h⟩
theorem nx_mod {m f l : Int} : (nx m f l - f * l) % m = 0 := by
  unfold nx
  rw [Int.sub_emod, Int.emod_emod, Int.mul_emod f (l % m), Int.emod_emod, ← Int.mul_emod, Int.sub_self, Int.zero_emod]
theorem nx_step {m f l x : Int} (h : (x - nx m f l) % m = 0) : (x - f * l) % m = 0 := by
  have h2 : (nx m f l - f * l) % m = 0 := nx_mod
  have e : x - f * l = (x - nx m f l) + (nx m f l - f * l) := by omega
  rw [e, Int.add_emod, h, h2]; simp
theorem mod_up {m x r : Int} (h : (x - r) % m = 0) : (x + m - r) % m = 0 := by
  have e : x + m - r = (x - r) + m := by omega
  rw [e, Int.add_emod_right, h]
theorem mod_down {m x r : Int} (h : (x - r) % m = 0) : (x - m - r) % m = 0 := by
  have e : x - m - r = (x - r) - m := by omega
  rw [e, Int.sub_emod_right, h]

/-- Each element is its remainder, or that minus m. -/
def Foll (m f : Int) : Int → List Int → Prop
  | _, [] => True
  | l, t :: ts => (t = nx m f l ∨ t = nx m f l - m) ∧ Foll m f t ts
/-- A point: neighbours go on by the factor. -/
def IsPt (m f : Int) (xs : List Int) : Prop := ∀ i, i + 1 < xs.length → (xs.getD (i + 1) 0 - f * xs.getD i 0) % m = 0
theorem getD_left {xs ys : List Int} {i : Nat} (h : i < xs.length) : (xs ++ ys).getD i 0 = xs.getD i 0 := by
  simp [List.getD, List.getElem?_append_left h]
theorem getD_last {xs : List Int} {x : Int} {n : Nat} (h : xs.length = n) : (xs ++ [x]).getD n 0 = x := by
  subst h; simp [List.getD]
theorem IsPt.snoc {m f x l : Int} {xs : List Int} {n : Nat} (h : IsPt m f xs) (hn : xs.length = n + 1) (hl : xs.getD n 0 = l) (hx : (x - f * l) % m = 0) : IsPt m f (xs ++ [x]) := by
  intro i hi
  rw [List.length_append] at hi
  simp at hi
  by_cases hi2 : i + 1 < xs.length
  · rw [getD_left (xs := xs) (ys := [x]) (i := i + 1) hi2, getD_left (xs := xs) (ys := [x]) (i := i) (by omega)]; exact h i hi2
  · have e : i = n := by omega
    subst e
    rw [getD_left (xs := xs) (ys := [x]) (i := i) (by omega), hl, getD_last hn]; exact hx
theorem IsPt.one (m f x : Int) : IsPt m f [x] := fun i hi => by simp at hi
/-- What the search for points keeps of the best one. -/
def Good (dim : Nat) (m f : Int) (ys : List Int) : Prop := ys.length = dim ∧ IsPt m f ys ∧ Pos ys
/-- Every going on of begun ++ [t] has at least the sum B. -/
def CovT (m f : Int) (xs : List Int) (r : Nat) (t B : Int) : Prop := ∀ ts, ts.length = r → Foll m f t ts → Pos (xs ++ t :: ts) → B ≤ sqs xs + t * t + sqs ts
/-- Every going on of begun, whose last element is l, has at least the sum B. -/
def CovP (m f : Int) (xs : List Int) (r : Nat) (l B : Int) : Prop := ∀ ts, ts.length = r → Foll m f l ts → Pos (xs ++ ts) → B ≤ sqs xs + sqs ts
theorem CovT.mono {m f : Int} {xs : List Int} {r : Nat} {t B B' : Int} (h : CovT m f xs r t B) (hB : B' ≤ B) : CovT m f xs r t B' := fun ts h1 h2 h3 => Int.le_trans hB (h ts h1 h2 h3)
theorem CovT.of {m f : Int} {xs : List Int} {r : Nat} {t B : Int} (h : CovP m f (xs ++ [t]) r t B) : CovT m f xs r t B := fun ts h1 h2 h3 => by
  have := h ts h1 h2 (by rw [List.append_assoc]; exact h3)
  rw [sqs_snoc] at this; exact this
theorem CovT.far {m f : Int} {xs : List Int} {r : Nat} {t B : Int} (h : ¬ sqs xs + t * t ≤ B) : CovT m f xs r t B := fun ts h1 h2 h3 => by
  have := sqs_nonneg ts; omega
theorem CovP.of {m f : Int} {xs : List Int} {r : Nat} {l B : Int} (h1 : CovT m f xs r (nx m f l) B) (h2 : CovT m f xs r (nx m f l - m) B) : CovP m f xs (r + 1) l B := fun ts k1 k2 k3 => by
  match ts, k1, k2, k3 with
  | t :: ts, k1, k2, k3 =>
    have k1' : ts.length = r := by simpa using k1
    rcases k2 with ⟨e | e, k2⟩
    · rw [← e] at h1
      have := h1 ts k1' k2 k3
      simp only [sqs]; omega
    · rw [← e] at h2
      have := h2 ts k1' k2 k3
      simp only [sqs]; omega
theorem sq_in {xs : List Int} : ∀ {k : Nat}, k < xs.length → xs.getD k 0 * xs.getD k 0 ≤ sqs xs := by
  induction xs with
  | nil => intro k hk; simp at hk
  | cons x xs ih =>
    intro k hk
    cases k with
    | zero => have := sqs_nonneg xs; simp only [List.getD_cons_zero, sqs]; omega
    | succ k => have := ih (k := k) (by simpa using hk); have h2 := sq_nonneg x; simp only [List.getD_cons_succ, sqs]; omega
theorem sq_bd {x b : Int} (hb : 0 ≤ b) (h : x * x ≤ b * b) : -b ≤ x ∧ x ≤ b := by
  constructor
  · refine Int.not_lt.1 fun hc => ?_
    have : (b + 1) * (b + 1) ≤ (-x) * (-x) := Int.mul_le_mul (by omega) (by omega) (by omega) (by omega)
    rw [Int.neg_mul_neg, Int.add_mul, Int.mul_add] at this; omega
  · refine Int.not_lt.1 fun hc => ?_
    have : (b + 1) * (b + 1) ≤ x * x := Int.mul_le_mul (by omega) (by omega) (by omega) (by omega)
    rw [Int.add_mul, Int.mul_add] at this; omega
theorem small_of {xs : List Int} (h : sqs xs ≤ 160000000000) : Small xs := fun j hj => sq_bd (b := 400000) (by omega) (Int.le_trans (sq_in hj) (by omega))
/-- Numbers of one round: x squared, and the sum with it. -/
theorem sq_facts {x S : Int} (h1 : -300000 ≤ x) (h2 : x ≤ 300000) (h3 : 0 ≤ S) (h4 : S ≤ 100000000000) :
    ∃ q s, x * x = q ∧ S + q = s ∧ 0 ≤ q ∧ q ≤ 90000000000 ∧ wrap64 q = q ∧ wrap64 s = s ∧ IntKind.i64.wrap q = q ∧ IntKind.i64.wrap s = s := by
  have h5 := sq_nonneg x
  have h6 := sq_le (b := 300000) h1 h2
  refine ⟨_, _, rfl, rfl, h5, by omega, ?_, ?_, ?_, ?_⟩
  · exact IntWalk.wrap64_in _ ⟨by omega, by omega⟩
  · exact IntWalk.wrap64_in _ ⟨by omega, by omega⟩
  · rw [IntKind.wrap_i64]; omega
  · rw [IntKind.wrap_i64]; omega
theorem root_bd {x S s B M : Int} (h1 : S + x * x = s) (h2 : 0 ≤ S) (h3 : s ≤ B) (h4 : B ≤ M * M) (h5 : 0 ≤ M) : -M ≤ x ∧ x ≤ M := sq_bd h5 (by omega)
end Go.Proofs.Ythkgaldpajnjgaa
