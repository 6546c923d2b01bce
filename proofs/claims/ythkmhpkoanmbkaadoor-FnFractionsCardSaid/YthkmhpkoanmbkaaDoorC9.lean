/-
  Contracts of MakeFraction and of the comparison of fractions. Conditions: int64's bounds, stated in each contract.
-/
import Derived.Test.YthkmhpkoanmbkaaDoorC7
import Derived.RegionTactic
import Derived.BigRegion
import Derived.ChangeAlike
namespace Go.Proofs.YthkmhpkoanmbkaaDoor
open Go.RowKit
set_option linter.unusedVariables false

/-- The parts of n / d in lowest terms. -/
def fmN (n d : Int) : Int := if d < 0 then (-n).tdiv (gcdI (absI (-n)) (-d)) else n.tdiv (gcdI (absI n) d)
def fmD (n d : Int) : Int := if d < 0 then (-d) / (gcdI (absI (-n)) (-d)) else d / (gcdI (absI n) d)
def mfB (n d : Int) : Bool := !(d == 0) && (inR n (-1000000000000000000) 1000000000000000000 && inR d (-1000000000000000000) 1000000000000000000)
def mfN (n d : Int) : Int := if mfB n d = true then fmN n d else 0
def mfD (n d : Int) : Int := if mfB n d = true then fmD n d else 0

theorem MakeFraction_any (n d : Int) (w : World) :
    Calls Tryd.prog 15 #[.int .i64 n, .int .i64 d] w fun e w' => e = .returned (.tuple #[.agg #[.int .i64 (mfN n d), .int .i64 (mfD n d)], .bool (mfB n d)]) ∧ Below w.heap.size w w' := by
  by_cases hd : d = 0
  · have hb : mfB n d = false := by simp [mfB, hd]
    have h1 : mfN n d = 0 := by simp [mfN, hb]
    have h2 : mfD n d = 0 := by simp [mfD, hb]
    rw [hb, h1, h2]; clear hb h1 h2
    subst hd
    go_enter Tryd.func15, Tryd.ntmps15
    go_wp2
    refine bodyPost_ret (v := .tuple #[.agg #[.int .i64 0, .int .i64 0], .bool false]) (by simp [results, Tryd.results15, go_sem]) rfl ⟨rfl, ?_⟩
    exact bw_alloc (bw_refl _) _
  · have hz : (d == 0) = false := by simp [hd]
    cases h1 : inR n (-1000000000000000000) 1000000000000000000 with
    | false =>
      have hb : mfB n d = false := by simp [mfB, h1]
      have e1 : mfN n d = 0 := by simp [mfN, hb]
      have e2 : mfD n d = 0 := by simp [mfD, hb]
      rw [hb, e1, e2]; clear hb e1 e2
      go_enter Tryd.func15, Tryd.ntmps15
      go_wp2_with (go_at_call 30; refine (inRange_of h1 _).mono ?_; rintro e w' ⟨rfl, rfl⟩)
      refine bodyPost_ret (v := .tuple #[.agg #[.int .i64 0, .int .i64 0], .bool false]) (by simp [results, Tryd.results15, go_sem]) rfl ⟨rfl, ?_⟩
      exact bw_alloc (bw_refl _) _
    | true =>
      have b1 := inR_true h1
      cases h2 : inR d (-1000000000000000000) 1000000000000000000 with
      | false =>
        have hb : mfB n d = false := by simp [mfB, h2]
        have e1 : mfN n d = 0 := by simp [mfN, hb]
        have e2 : mfD n d = 0 := by simp [mfD, hb]
        rw [hb, e1, e2]; clear hb e1 e2
        go_enter Tryd.func15, Tryd.ntmps15
        go_wp2_with (go_at_call 30; (first | (with_reducible refine (inRange_of h1 _).mono ?_) | (with_reducible refine (inRange_of h2 _).mono ?_)); rintro e w' ⟨rfl, rfl⟩)
        refine bodyPost_ret (v := .tuple #[.agg #[.int .i64 0, .int .i64 0], .bool false]) (by simp [results, Tryd.results15, go_sem]) rfl ⟨rfl, ?_⟩
        exact bw_alloc (bw_refl _) _
      | true =>
        have b2 := inR_true h2
        have hb : mfB n d = true := by simp [mfB, h1, h2, hd]
        by_cases hn : d < 0
        · have e1 : mfN n d = -(n.tdiv (gcdI (absI (-n)) (-d))) := by simp [mfN, hb, fmN, hn, Int.neg_tdiv]
          have a0 := absI_nonneg (-n)
          have a1 := absI_le (n := -n) (m := 1000000000000000000) (by omega) (by omega)
          have g := gcdI_le (b := -d) a0 (by omega)
          have e2 : mfD n d = -(d.tdiv (gcdI (absI (-n)) (-d))) := by
            simp only [mfD, hb, fmD, hn, if_true]
            rw [← Int.tdiv_eq_ediv_of_nonneg (by omega), Int.neg_tdiv]
          rw [hb, e1, e2]; clear hb e1 e2
          obtain ⟨G, hG⟩ : ∃ G, Hid (gcdI (absI (-n)) (-d) = G) := ⟨_, Lib.hid rfl⟩
          rw [hG.out] at g ⊢
          obtain ⟨Q, hQ⟩ : ∃ Q, n.tdiv G = Q := ⟨_, rfl⟩
          obtain ⟨R, hR⟩ : ∃ R, d.tdiv G = R := ⟨_, rfl⟩
          have q1 := tdiv_bd b1.1 b1.2 g.1
          have q2 := tdiv_bd b2.1 b2.2 g.1
          rw [hQ] at q1 ⊢
          rw [hR] at q2 ⊢
          go_enter Tryd.func15, Tryd.ntmps15
          go_wp2_with (first | (go_at_call 30; (first | (with_reducible refine (inRange_of h1 _).mono ?_) | (with_reducible refine (inRange_of h2 _).mono ?_)); rintro e w' ⟨rfl, rfl⟩) | (go_at_call 32; refine (size_any (-n) _ (by omega) (by omega)).mono ?_; rintro e w' ⟨rfl, rfl⟩) | (go_at_call 31; refine (divisor_of hG (by omega) (by omega) (by omega) (by omega)).mono ?_; rintro e w' ⟨rfl, k, rfl⟩))
          go_region
          all_goals go_wp2
          all_goals exact bodyPost_ret (v := .tuple #[.agg #[.int .i64 (-Q), .int .i64 (-R)], .bool true]) (by simp [results, Tryd.results15, go_sem]) rfl ⟨rfl, bw_setCell (bw_setCell (bw_drewN (bw_alloc (bw_refl _) _) _) (Nat.le_refl _) _) (Nat.le_refl _) _⟩
        · have e1 : mfN n d = n.tdiv (gcdI (absI n) d) := by simp [mfN, hb, fmN, hn]
          have a0 := absI_nonneg n
          have a1 := absI_le (n := n) (m := 1000000000000000000) (by omega) (by omega)
          have g := gcdI_le (b := d) a0 (by omega)
          have e2 : mfD n d = d / (gcdI (absI n) d) := by simp [mfD, hb, fmD, hn]
          rw [hb, e1, e2]; clear hb e1 e2
          obtain ⟨G, hG⟩ : ∃ G, Hid (gcdI (absI n) d = G) := ⟨_, Lib.hid rfl⟩
          rw [hG.out] at g ⊢
          obtain ⟨Q, hQ⟩ : ∃ Q, n.tdiv G = Q := ⟨_, rfl⟩
          have q1 := tdiv_bd b1.1 b1.2 g.1
          rw [hQ] at q1 ⊢
          go_enter Tryd.func15, Tryd.ntmps15
          go_wp2_with (first | (go_at_call 30; (first | (with_reducible refine (inRange_of h1 _).mono ?_) | (with_reducible refine (inRange_of h2 _).mono ?_)); rintro e w' ⟨rfl, rfl⟩) | (go_at_call 32; refine (size_any n _ (by omega) (by omega)).mono ?_; rintro e w' ⟨rfl, rfl⟩) | (go_at_call 31; refine (divisor_of hG (by omega) (by omega) (by omega) (by omega)).mono ?_; rintro e w' ⟨rfl, k, rfl⟩))
          go_region
          all_goals go_wp2
          all_goals exact bodyPost_ret (v := .tuple #[.agg #[.int .i64 Q, .int .i64 (d / G)], .bool true]) (by simp [results, Tryd.results15, go_sem]) rfl ⟨rfl, bw_setCell (bw_setCell (bw_drewN (bw_alloc (bw_refl _) _) _) (Nat.le_refl _) _) (Nat.le_refl _) _⟩
theorem l01FMake_any (n d : Int) (w : World) (b1 : -1000000000000000000 ≤ n ∧ n ≤ 1000000000000000000) (b2 : -1000000000000000000 ≤ d ∧ d ≤ 1000000000000000000) (hd : ¬ d = 0) :
    Calls Tryd.prog 19 #[.int .i64 n, .int .i64 d] w fun e w' => e = .returned (.agg #[.int .i64 (fmN n d), .int .i64 (fmD n d)]) ∧ Below w.heap.size w w' := by
  by_cases hn : d < 0
  · have e1 : fmN n d = -(n.tdiv (gcdI (absI (-n)) (-d))) := by simp [fmN, hn, Int.neg_tdiv]
    have a0 := absI_nonneg (-n)
    have a1 := absI_le (n := -n) (m := 1000000000000000000) (by omega) (by omega)
    have g := gcdI_le (b := -d) a0 (by omega)
    have e2 : fmD n d = -(d.tdiv (gcdI (absI (-n)) (-d))) := by
      simp only [fmD, hn, if_true]
      rw [← Int.tdiv_eq_ediv_of_nonneg (by omega), Int.neg_tdiv]
    rw [e1, e2]; clear e1 e2
    obtain ⟨G, hG⟩ : ∃ G, Hid (gcdI (absI (-n)) (-d) = G) := ⟨_, Lib.hid rfl⟩
    rw [hG.out] at g ⊢
    obtain ⟨Q, hQ⟩ : ∃ Q, n.tdiv G = Q := ⟨_, rfl⟩
    obtain ⟨R, hR⟩ : ∃ R, d.tdiv G = R := ⟨_, rfl⟩
    have q1 := tdiv_bd b1.1 b1.2 g.1
    have q2 := tdiv_bd b2.1 b2.2 g.1
    rw [hQ] at q1 ⊢
    rw [hR] at q2 ⊢
    go_enter Tryd.func19, Tryd.ntmps19
    go_wp2_with (first | (go_at_call 36; refine (l00Max_of (-n) n _ (by omega) (by omega) (by omega)).mono ?_; rintro e w' ⟨rfl, rfl⟩) | (go_at_call 35; refine (l01Gcd_of hG (by omega) (by omega) (by omega) (by omega)).mono ?_; rintro e w' ⟨rfl, rfl⟩))
    go_region
    all_goals go_wp2
    all_goals exact bodyPost_ret (v := .agg #[.int .i64 (-Q), .int .i64 (-R)]) (by simp [results, Tryd.results19, go_sem]) rfl ⟨rfl, bw_drew (bw_alloc (bw_refl _) _)⟩
  · have e1 : fmN n d = n.tdiv (gcdI (absI n) d) := by simp [fmN, hn]
    have a0 := absI_nonneg n
    have a1 := absI_le (n := n) (m := 1000000000000000000) (by omega) (by omega)
    have g := gcdI_le (b := d) a0 (by omega)
    have e2 : fmD n d = d / (gcdI (absI n) d) := by simp [fmD, hn]
    rw [e1, e2]; clear e1 e2
    obtain ⟨G, hG⟩ : ∃ G, Hid (gcdI (absI n) d = G) := ⟨_, Lib.hid rfl⟩
    rw [hG.out] at g ⊢
    obtain ⟨Q, hQ⟩ : ∃ Q, n.tdiv G = Q := ⟨_, rfl⟩
    have q1 := tdiv_bd b1.1 b1.2 g.1
    rw [hQ] at q1 ⊢
    go_enter Tryd.func19, Tryd.ntmps19
    go_wp2_with (first | (go_at_call 36; refine (l00Max_abs n _ (by omega) (by omega)).mono ?_; rintro e w' ⟨rfl, rfl⟩) | (go_at_call 35; refine (l01Gcd_of hG (by omega) (by omega) (by omega) (by omega)).mono ?_; rintro e w' ⟨rfl, rfl⟩))
    go_region
    all_goals go_wp2
    all_goals exact bodyPost_ret (v := .agg #[.int .i64 Q, .int .i64 (d / G)]) (by simp [results, Tryd.results19, go_sem]) rfl ⟨rfl, bw_drew (bw_alloc (bw_refl _) _)⟩
end Go.Proofs.YthkmhpkoanmbkaaDoor
