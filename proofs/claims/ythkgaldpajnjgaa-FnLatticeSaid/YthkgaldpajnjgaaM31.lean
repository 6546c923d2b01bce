/-
  Waves of a congruence: what an exhaustive search for short ones looks through. Plain numbers, no program.
-/
import Derived.Test.YthkgaldpajnjgaaM30
namespace Go.Proofs.Ythkgaldpajnjgaa
open Go.RowKit
set_option linter.unusedVariables false

/-- The next power, and the sum with the element t. -/
def wst (m f : Int) (s : Int × Int) (t : Int) : Int × Int := (s.1 * f % m, (s.2 + s.1 * (t % m)) % m)
/-- The power behind elements, and the sum of the elements with the powers. -/
def wv (m f : Int) (xs : List Int) : Int × Int := xs.foldl (wst m f) (f, 0)
theorem wv_snoc (m f : Int) (xs : List Int) (t : Int) : wv m f (xs ++ [t]) = wst m f (wv m f xs) t := by simp [wv]
theorem wv_bd {m f : Int} (h1 : 2 ≤ m) (h2 : 0 ≤ f ∧ f ≤ m - 1) : ∀ xs, (0 ≤ (wv m f xs).1 ∧ (wv m f xs).1 ≤ m - 1) ∧ 0 ≤ (wv m f xs).2 ∧ (wv m f xs).2 ≤ m - 1 := by
  have key : ∀ (xs : List Int) (s : Int × Int), (0 ≤ s.1 ∧ s.1 ≤ m - 1) ∧ 0 ≤ s.2 ∧ s.2 ≤ m - 1 → (0 ≤ (xs.foldl (wst m f) s).1 ∧ (xs.foldl (wst m f) s).1 ≤ m - 1) ∧ 0 ≤ (xs.foldl (wst m f) s).2 ∧ (xs.foldl (wst m f) s).2 ≤ m - 1 := by
    intro xs
    induction xs with
    | nil => intro s h; exact h
    | cons x xs ih =>
      intro s h
      refine ih _ ?_
      have a1 := Int.emod_nonneg (s.1 * f) (show m ≠ 0 by omega)
      have a2 := Int.emod_lt_of_pos (s.1 * f) (show 0 < m by omega)
      have a3 := Int.emod_nonneg (s.2 + s.1 * (x % m)) (show m ≠ 0 by omega)
      have a4 := Int.emod_lt_of_pos (s.2 + s.1 * (x % m)) (show 0 < m by omega)
      simp only [wst]
      omega
  intro xs
  exact key xs (f, 0) (by simp; omega)
/-- The remainder of a wave's first element. -/
def wf (m f : Int) (xs : List Int) : Int := (-(wv m f xs).2) % m
theorem wf_bd {m f : Int} (h : 2 ≤ m) (xs : List Int) : 0 ≤ wf m f xs ∧ wf m f xs < m := ⟨Int.emod_nonneg _ (by omega), Int.emod_lt_of_pos _ (by omega)⟩
/-- A wave, its first element x. -/
def IsWv (m f x : Int) (xs : List Int) : Prop := (x + (wv m f xs).2) % m = 0
/-- The first elements that the search tries. -/
def Tried (m f x : Int) (xs : List Int) : Prop := x = wf m f xs - m ∨ x = wf m f xs ∨ x = wf m f xs + m
theorem Tried.wave {m f x : Int} {xs : List Int} (h : Tried m f x xs) : IsWv m f x xs := by
  have h0 : ((wf m f xs) + (wv m f xs).2) % m = 0 := by
    unfold wf
    rw [Int.add_emod, Int.emod_emod, ← Int.add_emod, Int.add_left_neg, Int.zero_emod]
  unfold IsWv
  rcases h with rfl | rfl | rfl
  · have e : wf m f xs - m + (wv m f xs).2 = (wf m f xs + (wv m f xs).2) - m := by omega
    rw [e, Int.sub_emod_right, h0]
  · exact h0
  · have e : wf m f xs + m + (wv m f xs).2 = (wf m f xs + (wv m f xs).2) + m := by omega
    rw [e, Int.add_emod_right, h0]
/-- What the search for waves keeps of the best one. -/
def GoodW (K : Nat) (m f B : Int) (best : Option (List Int)) : Prop := ∀ ys, best = some ys → ∃ x xs, ys = x :: xs ∧ xs.length = K ∧ IsWv m f x xs ∧ Pos ys ∧ sqs ys ≤ B * B
theorem GoodW.none (K : Nat) (m f B : Int) : GoodW K m f B none := fun ys h => by cases h
/-- The wave x :: xs has been offered, if its sum of squares is small enough. -/
def WC1 (B : Int) (xs : List Int) (x : Int) (best : Option (List Int)) : Prop := sqs xs + x * x ≤ B * B → Pos (x :: xs) → Cov best (x * x + sqs xs)
/-- All waves that end so have been offered. -/
def WCov (m f B : Int) (xs : List Int) (r : Nat) (best : Option (List Int)) : Prop := ∀ ts, ts.length = r → ∀ x, Tried m f x (xs ++ ts) → WC1 B (xs ++ ts) x best
def Upon (best best' : Option (List Int)) : Prop := ∀ n, Cov best n → Cov best' n
theorem Upon.refl (best : Option (List Int)) : Upon best best := fun _ h => h
theorem Upon.trans {a b c : Option (List Int)} (h : Upon a b) (k : Upon b c) : Upon a c := fun n hn => k n (h n hn)
theorem WC1.mono {B x : Int} {xs : List Int} {best best' : Option (List Int)} (h : WC1 B xs x best) (hu : Upon best best') : WC1 B xs x best' := fun h1 h2 => hu _ (h h1 h2)
theorem WCov.mono {m f B : Int} {xs : List Int} {r : Nat} {best best' : Option (List Int)} (h : WCov m f B xs r best) (hu : Upon best best') : WCov m f B xs r best' := fun ts h1 x h2 => (h ts h1 x h2).mono hu
theorem sqs_app : ∀ xs ys : List Int, sqs (xs ++ ys) = sqs xs + sqs ys
  | [], ys => by simp [sqs]
  | x :: xs, ys => by simp only [List.cons_append, sqs, sqs_app xs ys]; omega
theorem WCov.far {m f B t : Int} {xs : List Int} {r : Nat} {best : Option (List Int)} (h : ¬ sqs xs + t * t ≤ B * B) : WCov m f B (xs ++ [t]) r best := fun ts h1 x h2 h3 _ => by
  rw [sqs_app, sqs_snoc] at h3
  have := sqs_nonneg ts
  have := sq_nonneg x
  omega
theorem WCov.all {m f B : Int} {xs : List Int} {r : Nat} {best : Option (List Int)} (hB : 0 ≤ B) (h : ∀ t, -B ≤ t → t < B + 1 → WCov m f B (xs ++ [t]) r best) : WCov m f B xs (r + 1) best := fun ts h1 x h2 h3 h4 => by
  match ts, h1, h2, h3, h4 with
  | t :: ts, h1, h2, h3, h4 =>
    have e : xs ++ t :: ts = (xs ++ [t]) ++ ts := by simp
    have hle := h3
    rw [sqs_app] at hle
    simp only [sqs] at hle
    have k1 := sqs_nonneg xs
    have k2 := sqs_nonneg ts
    have k3 := sq_nonneg x
    have hb := sq_bd (x := t) hB (by omega)
    rw [e] at h2 h3 h4 ⊢
    exact h t hb.1 (by omega) ts (by simpa using h1) x h2 h3 h4
theorem WCov.last {m f B : Int} {xs : List Int} {best : Option (List Int)} (h1 : WC1 B xs (wf m f xs - m) best) (h2 : WC1 B xs (wf m f xs) best) (h3 : WC1 B xs (wf m f xs + m) best) : WCov m f B xs 0 best := fun ts k1 x k2 => by
  have e : ts = [] := List.eq_nil_of_length_eq_zero k1
  subst e
  rw [List.append_nil] at k2 ⊢
  rcases k2 with rfl | rfl | rfl
  · exact h1
  · exact h2
  · exact h3
theorem Offered.good {K : Nat} {m f B x : Int} {xs : List Int} {best best' : Option (List Int)} (h : Offered best (x :: xs) best') (hg : GoodW K m f B best) (hl : xs.length = K) (hw : Tried m f x xs) (hs : sqs xs + x * x ≤ B * B) : GoodW K m f B best' := by
  intro ys e
  rcases h.from_ with h | ⟨h, hP⟩
  · exact hg ys (by rw [← h]; exact e)
  · rw [h] at e
    cases e
    exact ⟨x, xs, rfl, hl, hw.wave, hP, by simp only [sqs]; omega⟩
theorem Offered.wc1 {B x : Int} {xs : List Int} {best best' : Option (List Int)} (h : Offered best (x :: xs) best') : WC1 B xs x best' := fun _ hP => by
  have := h.cov hP
  simpa only [sqs] using this
theorem WC1.far {B x : Int} {xs : List Int} {best : Option (List Int)} (h : ¬ sqs xs + x * x ≤ B * B) : WC1 B xs x best := fun h1 => absurd h1 h
/-- Numbers of one round of the search for waves. -/
theorem wst_facts {m f p s t : Int} (h1 : 2 ≤ m) (h2 : m ≤ 100000) (hf : 0 ≤ f ∧ f ≤ m - 1) (hp : 0 ≤ p ∧ p ≤ m - 1) (hs : 0 ≤ s ∧ s ≤ m - 1) :
    ∃ tm u v p' y s', t % m = tm ∧ p * tm = u ∧ s + u = v ∧ v % m = s' ∧ p * f = y ∧ y.tmod m = p' ∧ wst m f (p, s) t = (p', s') ∧ wrap64 u = u ∧ wrap64 v = v ∧ wrap64 y = y ∧ IntKind.i64.wrap u = u ∧ IntKind.i64.wrap v = v ∧ IntKind.i64.wrap y = y := by
  have a1 := Int.emod_nonneg t (show m ≠ 0 by omega)
  have a2 := Int.emod_lt_of_pos t (show 0 < m by omega)
  have b1 : 0 ≤ p * (t % m) := Int.mul_nonneg hp.1 a1
  have b2 : p * (t % m) ≤ 100000 * 100000 := Int.mul_le_mul (by omega) (by omega) (by omega) (by omega)
  have c1 : 0 ≤ p * f := Int.mul_nonneg hp.1 hf.1
  have c2 : p * f ≤ 100000 * 100000 := Int.mul_le_mul (by omega) (by omega) (by omega) (by omega)
  refine ⟨_, _, _, _, _, _, rfl, rfl, rfl, rfl, rfl, rfl, ?_, ?_, ?_, ?_, ?_, ?_, ?_⟩
  · simp only [wst]; rw [Int.tmod_eq_emod_of_nonneg c1]
  · exact IntWalk.wrap64_in _ ⟨by omega, by omega⟩
  · exact IntWalk.wrap64_in _ ⟨by omega, by omega⟩
  · exact IntWalk.wrap64_in _ ⟨by omega, by omega⟩
  · rw [IntKind.wrap_i64]; omega
  · rw [IntKind.wrap_i64]; omega
  · rw [IntKind.wrap_i64]; omega
end Go.Proofs.Ythkgaldpajnjgaa
