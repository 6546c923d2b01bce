/-
  Contracts of BackCongruence: the congruence of the steps back, by the least inverse of the factor. No condition.
-/
import Derived.Test.YtifigkkghfjhpaaC12
namespace Go.Proofs.Ytifigkkghfjhpaa
open Go.RowKit
set_option linter.unusedVariables false

/-- The least number from 1 on whose product with f has the remainder 1. -/
def invN (f m : Nat) : Nat := ((List.range m).find? (fun i => f * (i + 1) % m == 1)).getD 0 + 1
theorem invN_spec {f m : Nat} (hm : 2 ≤ m) (hg : Nat.gcd f m = 1) : 1 ≤ invN f m ∧ invN f m ≤ m - 1 ∧ f * invN f m % m = 1 ∧ ∀ j, 1 ≤ j → j < invN f m → f * j % m ≠ 1 := by
  obtain ⟨n, h1, h2, h3⟩ := pow_one_of hm hg
  have h4 : f * (f ^ (n - 1) % m) % m = 1 := by
    rw [Nat.mul_mod_mod, ← Nat.pow_succ', show (n - 1).succ = n by omega]; exact h3
  have h5 : f ^ (n - 1) % m < m := Nat.mod_lt _ (by omega)
  have h6 : 1 ≤ f ^ (n - 1) % m := by
    rcases Nat.eq_zero_or_pos (f ^ (n - 1) % m) with h | h
    · rw [h] at h4; simp at h4
    · exact h
  generalize f ^ (n - 1) % m = c at *
  unfold invN
  cases hf : (List.range m).find? (fun i => f * (i + 1) % m == 1) with
  | none =>
    rw [List.find?_range_eq_none] at hf
    have := hf (c - 1) (by omega)
    rw [show c - 1 + 1 = c by omega, h4] at this
    simp at this
  | some i =>
    rw [List.find?_range_eq_some] at hf
    obtain ⟨p1, p2, p3⟩ := hf
    have hle : i ≤ c - 1 := by
      rcases Nat.lt_or_ge (c - 1) i with h | h
      · have := p3 (c - 1) h
        rw [show c - 1 + 1 = c by omega, h4] at this
        simp at this
      · exact h
    refine ⟨by simp, by simp; omega, by simpa using p1, fun j j1 j2 => ?_⟩
    have := p3 (j - 1) (by simp at j2; omega)
    rw [show j - 1 + 1 = j by omega] at this
    simpa using this
def bkB (m f a : Int) : Bool := vcB m f a && (gcdI f m == 1)
def inv (m f : Int) : Int := ((invN f.toNat m.toNat : Nat) : Int)
def bkM (m f a : Int) : Int := if bkB m f a = true then m else 0
def bkF (m f a : Int) : Int := if bkB m f a = true then inv m f else 0
def bkA (m f a : Int) : Int := if bkB m f a = true then -a % m * inv m f % m else 0
theorem back_same (m a i : Int) : (m - i * a % m) % m = -a % m * i % m := by
  rw [Int.emod_def (i * a) m, Int.emod_def (-a) m]
  generalize i * a / m = p
  generalize -a / m = q
  refine emod_eq_of (c := 1 + p + q * i) ?_
  grind

theorem BackCongruence_any (m f a : Int) (w : World) :
    Calls Try.prog 23 #[.agg #[.int .i64 m, .int .i64 f, .int .i64 a]] w fun e w' => e = .returned (.tuple #[.agg #[.int .i64 (bkM m f a), .int .i64 (bkF m f a), .int .i64 (bkA m f a)], .bool (bkB m f a)]) ∧ Below w.heap.size w w' := by
  cases h1 : vcB m f a with
  | false =>
    have e1 : bkB m f a = false := by simp [bkB, h1]
    have e2 : bkM m f a = 0 := by simp [bkM, e1]
    have e3 : bkF m f a = 0 := by simp [bkF, e1]
    have e4 : bkA m f a = 0 := by simp [bkA, e1]
    rw [e1, e2, e3, e4]; clear e1 e2 e3 e4
    go_enter Try.func23, Try.ntmps23
    go_wp2_with fail
    refine (ValidCongruence_any m f a _).mono ?_
    rintro e w1 ⟨rfl, hb1⟩
    have hB := (Blk.new' (w := w.alloc (.cells #[.int .i64 m, .int .i64 f, .int .i64 a] 33)) (b := w.heap.size + 1) (by simp) (cgr 0 0 0) 33).later hb1
    obtain ⟨c0, c1, c2, f0, f1, f2⟩ := cgr_cells hB
    clear hB
    go_wp2
    exact bodyPost_ret (v := .tuple #[.agg #[.int .i64 0, .int .i64 0, .int .i64 0], .bool false]) (by simp [results, Try.results23, go_sem, c0, c1, c2]) rfl ⟨rfl, bw_setCell (bw_setCell (bw_setCell (bw_call (bw_alloc (bw_alloc (bw_refl _) _) _) hb1) (by simp) _) (by simp) _) (by simp) _⟩
  | true =>
    obtain ⟨b1, b2, b3⟩ := vcB_true h1
    cases h2 : (gcdI f m == 1) with
    | false =>
      have e1 : bkB m f a = false := by simp [bkB, h2]
      have e2 : bkM m f a = 0 := by simp [bkM, e1]
      have e3 : bkF m f a = 0 := by simp [bkF, e1]
      have e4 : bkA m f a = 0 := by simp [bkA, e1]
      rw [e1, e2, e3, e4]; clear e1 e2 e3 e4
      go_enter Try.func23, Try.ntmps23
      go_wp2_with fail
      refine (ValidCongruence_any m f a _).mono ?_
      rintro e w1 ⟨rfl, hb1⟩
      have hA := Lib.hid (((Blk.new w (cgr m f a) 33).alloc (.cells (cgr 0 0 0) 33)).later hb1)
      have hB := Lib.hid ((Blk.new' (w := w.alloc (.cells #[.int .i64 m, .int .i64 f, .int .i64 a] 33)) (b := w.heap.size + 1) (by simp) (cgr 0 0 0) 33).later hb1)
      obtain ⟨c0, c1, c2, _, _, _⟩ := cgr_cells hA.out
      obtain ⟨d0, d1, d2, f0, f1, f2⟩ := cgr_cells hB.out
      go_wp2_with (go_at_call 50; refine (divisor_any f m _ (by omega) (by omega) (by omega) (by omega)).mono ?_; rintro e w' ⟨rfl, k, rfl⟩)
      exact bodyPost_ret (v := .tuple #[.agg #[.int .i64 0, .int .i64 0, .int .i64 0], .bool false]) (by simp [results, Try.results23, go_sem, d0, d1, d2]) rfl ⟨rfl, bw_setCell (bw_setCell (bw_setCell (bw_drewN (bw_call (bw_alloc (bw_alloc (bw_refl _) _) _) hb1) _) (by simp) _) (by simp) _) (by simp) _⟩
    | true =>
      have e1 : bkB m f a = true := by simp [bkB, h1, h2]
      have e2 : bkM m f a = m := by simp [bkM, e1]
      have e3 : bkF m f a = inv m f := by simp [bkF, e1]
      have e4 : bkA m f a = -a % m * inv m f % m := by simp [bkA, e1]
      rw [e1, e2, e3, e4]; clear e1 e2 e3 e4
      obtain ⟨F, rfl⟩ := Int.eq_ofNat_of_zero_le b2.1
      obtain ⟨M, rfl⟩ := Int.eq_ofNat_of_zero_le (show 0 ≤ m by omega)
      have hg : Nat.gcd F M = 1 := by
        have : gcdI F M = 1 := by simpa using h2
        unfold gcdI at this; simp only [Int.toNat_natCast] at this; omega
      obtain ⟨o1, o2, o3, o4⟩ := invN_spec (by omega) hg
      have ei : inv M F = ((invN F M : Nat) : Int) := by simp [inv]
      rw [ei]; clear ei
      generalize invN F M = O at *
      have H3 := Lib.hid o3
      have H4 := Lib.hid o4
      clear o3 o4 hg
      go_enter Try.func23, Try.ntmps23
      go_wp2_with fail
      refine (ValidCongruence_any M F a _).mono ?_
      rintro e w1 ⟨rfl, hb1⟩
      have hA := Lib.hid (((Blk.new w (cgr M F a) 33).alloc (.cells (cgr 0 0 0) 33)).later hb1)
      have hB := Lib.hid ((Blk.new' (w := w.alloc (.cells #[.int .i64 M, .int .i64 F, .int .i64 a] 33)) (b := w.heap.size + 1) (by simp) (cgr 0 0 0) 33).later hb1)
      obtain ⟨c0, c1, c2, _, _, _⟩ := cgr_cells hA.out
      obtain ⟨d0, d1, d2, f0, f1, f2⟩ := cgr_cells hB.out
      have lA := hA.out.lt
      go_wp2_with (go_at_call 50; refine (divisor_any F M _ (by omega) (by omega) (by omega) (by omega)).mono ?_; rintro e w' ⟨rfl, k, rfl⟩)
      go_loop [4] (fun v => ∃ n : Nat, 1 ≤ n ∧ n ≤ O ∧ v = .int .i64 n) (fun v => O - (intOf v).toNat)
      case atStart => exact ⟨1, by omega, by omega, rfl⟩
      case round =>
        obtain ⟨n, n1, nO, rfl⟩ := hrel
        have hp : (F : Int) * (n : Int) ≤ 100000 * 100000 := by
          have : F * n ≤ 100000 * 100000 := Nat.mul_le_mul (by omega) (by omega)
          rw [← Int.natCast_mul]; omega
        have hp0 : 0 ≤ (F : Int) * (n : Int) := by rw [← Int.natCast_mul]; omega
        obtain ⟨Y, hy⟩ : ∃ Y : Int, (F : Int) * (n : Int) % (M : Int) = Y := ⟨_, rfl⟩
        have HY : Hid (Y = ((F * n % M : Nat) : Int)) := Lib.hid (by rw [← hy]; simp)
        by_cases hx : Y = 1
        · have hnO : n = O := by
            rcases Nat.lt_or_ge n O with h | h
            · exact absurd (by have := HY.out; omega) (H4.out n n1 h)
            · omega
          subst hnO
          subst hx
          have m0 := Int.emod_nonneg (-a) (show (M : Int) ≠ 0 by omega)
          have m1 := Int.emod_lt_of_pos (-a) (show (0 : Int) < M by omega)
          have q1 : -a % (M : Int) * (n : Int) ≤ 100000 * 100000 := Int.mul_le_mul (by omega) (by omega) (by omega) (by omega)
          have q0 : 0 ≤ -a % (M : Int) * (n : Int) := Int.mul_nonneg m0 (by omega)
          go_wp2
          go_region
          all_goals go_wp2
          all_goals exact bodyPost_ret (v := .tuple #[.agg #[.int .i64 M, .int .i64 n, .int .i64 (-a % M * n % M)], .bool true]) (by simp [results, Try.results23, go_sem, d0, d1, d2]) rfl ⟨rfl, bw_setCell (bw_setCell (bw_setCell (bw_drewN (bw_call (bw_alloc (bw_alloc (bw_refl _) _) _) hb1) _) (by simp) _) (by simp) _) (by simp) _⟩
        · have hnO : n < O := by
            rcases Nat.lt_or_ge n O with h | h
            · exact h
            · have : n = O := by omega
              subst this
              exact absurd (by rw [HY.out, H3.out]; rfl) hx
          go_wp2
          go_round
          case rel => exact ⟨n + 1, by omega, by omega, by go_num⟩
          case measure => simp [intOf]; omega
theorem sBackCongruence_any (m f a : Int) (w : World) :
    Calls Try.prog 22 #[.agg #[.int .i64 m, .int .i64 f, .int .i64 a]] w fun e w' => e = .returned (.tuple #[.agg #[.int .i64 (bkM m f a), .int .i64 (bkF m f a), .int .i64 (bkA m f a)], .bool (bkB m f a)]) ∧ Below w.heap.size w w' := by
  cases h1 : vcB m f a with
  | false =>
    have e1 : bkB m f a = false := by simp [bkB, h1]
    have e2 : bkM m f a = 0 := by simp [bkM, e1]
    have e3 : bkF m f a = 0 := by simp [bkF, e1]
    have e4 : bkA m f a = 0 := by simp [bkA, e1]
    rw [e1, e2, e3, e4]; clear e1 e2 e3 e4
    go_enter Try.func22, Try.ntmps22
    go_wp2_with (go_at_call 58; refine (l03Is_any m f a _ _ (by simp) (by simp) (by simp)).mono ?_; rintro e w' ⟨rfl, k, rfl⟩)
    exact bodyPost_ret (v := .tuple #[.agg #[.int .i64 0, .int .i64 0, .int .i64 0], .bool false]) (by simp [results, Try.results22, go_sem]) rfl ⟨rfl, bw_setCell (bw_setCell (bw_setCell (bw_drewN (bw_alloc (bw_alloc (bw_refl _) _) _) _) (by simp) _) (by simp) _) (by simp) _⟩
  | true =>
    obtain ⟨b1, b2, b3⟩ := vcB_true h1
    cases h2 : (gcdI f m == 1) with
    | false =>
      have e1 : bkB m f a = false := by simp [bkB, h2]
      have e2 : bkM m f a = 0 := by simp [bkM, e1]
      have e3 : bkF m f a = 0 := by simp [bkF, e1]
      have e4 : bkA m f a = 0 := by simp [bkA, e1]
      rw [e1, e2, e3, e4]; clear e1 e2 e3 e4
      go_enter Try.func22, Try.ntmps22
      go_wp2_with (first | (go_at_call 58; refine (l03Is_any m f a _ _ (by simp) (by simp) (by simp)).mono ?_; rintro e w' ⟨rfl, k, rfl⟩) | (go_at_call 59; refine (l01Gcd_any f m _ (by omega) (by omega) (by omega) (by omega)).mono ?_; rintro e w' ⟨rfl, rfl⟩))
      exact bodyPost_ret (v := .tuple #[.agg #[.int .i64 0, .int .i64 0, .int .i64 0], .bool false]) (by simp [results, Try.results22, go_sem]) rfl ⟨rfl, bw_setCell (bw_setCell (bw_setCell (bw_drewN (bw_alloc (bw_alloc (bw_refl _) _) _) _) (by simp) _) (by simp) _) (by simp) _⟩
    | true =>
      have e1 : bkB m f a = true := by simp [bkB, h1, h2]
      have e2 : bkM m f a = m := by simp [bkM, e1]
      have e3 : bkF m f a = inv m f := by simp [bkF, e1]
      have e4 : bkA m f a = -a % m * inv m f % m := by simp [bkA, e1]
      rw [e1, e2, e3, e4]; clear e1 e2 e3 e4
      obtain ⟨F, rfl⟩ := Int.eq_ofNat_of_zero_le b2.1
      obtain ⟨M, rfl⟩ := Int.eq_ofNat_of_zero_le (show 0 ≤ m by omega)
      have hg : Nat.gcd F M = 1 := by
        have : gcdI F M = 1 := by simpa using h2
        unfold gcdI at this; simp only [Int.toNat_natCast] at this; omega
      obtain ⟨o1, o2, o3, o4⟩ := invN_spec (by omega) hg
      have ei : inv M F = ((invN F M : Nat) : Int) := by simp [inv]
      rw [ei]; clear ei
      generalize invN F M = O at *
      have H3 := Lib.hid o3
      have H4 := Lib.hid o4
      clear o3 o4 hg
      go_enter Try.func22, Try.ntmps22
      go_wp2_with (first | (go_at_call 58; refine (l03Is_any M F a _ _ (by simp) (by simp) (by simp)).mono ?_; rintro e w' ⟨rfl, k, rfl⟩) | (go_at_call 59; refine (l01Gcd_any F M _ (by omega) (by omega) (by omega) (by omega)).mono ?_; rintro e w' ⟨rfl, rfl⟩))
      go_loop [4] (fun v => ∃ n : Nat, 1 ≤ n ∧ n ≤ O ∧ v = .int .i64 n) (fun v => O - (intOf v).toNat)
      case atStart => exact ⟨1, by omega, by omega, rfl⟩
      case round =>
        obtain ⟨n, n1, nO, rfl⟩ := hrel
        have hp : (n : Int) * (F : Int) ≤ 100000 * 100000 := by
          have : n * F ≤ 100000 * 100000 := Nat.mul_le_mul (by omega) (by omega)
          rw [← Int.natCast_mul]; omega
        have hp0 : 0 ≤ (n : Int) * (F : Int) := by rw [← Int.natCast_mul]; omega
        obtain ⟨Y, hy⟩ : ∃ Y : Int, (n : Int) * (F : Int) % (M : Int) = Y := ⟨_, rfl⟩
        have HY : Hid (Y = ((n * F % M : Nat) : Int)) := Lib.hid (by rw [← hy]; simp)
        by_cases hx : Y = 1
        · have hnO : n = O := by
            rcases Nat.lt_or_ge n O with h | h
            · exact absurd (by have := HY.out; rw [Nat.mul_comm]; omega) (H4.out n n1 h)
            · omega
          subst hnO
          subst hx
          have q1 : (n : Int) * a ≤ 100000 * 100000 := Int.mul_le_mul (by omega) (by omega) (by omega) (by omega)
          have q0 : 0 ≤ (n : Int) * a := Int.mul_nonneg (by omega) (by omega)
          have m0 := Int.emod_nonneg ((n : Int) * a) (show (M : Int) ≠ 0 by omega)
          have m1 := Int.emod_lt_of_pos ((n : Int) * a) (show (0 : Int) < M by omega)
          have HS := Lib.hid (back_same M a n)
          go_wp2
          go_region
          all_goals go_wp2
          all_goals exact bodyPost_ret (v := .tuple #[.agg #[.int .i64 M, .int .i64 n, .int .i64 ((M - n * a % M) % M)], .bool true]) (by simp [results, Try.results22, go_sem]) rfl ⟨by rw [HS.out], bw_setCell (bw_setCell (bw_setCell (bw_drewN (bw_alloc (bw_alloc (bw_refl _) _) _) _) (by simp) _) (by simp) _) (by simp) _⟩
        · have hnO : n < O := by
            rcases Nat.lt_or_ge n O with h | h
            · exact h
            · have : n = O := by omega
              subst this
              exact absurd (by rw [HY.out, Nat.mul_comm, H3.out]; rfl) hx
          go_wp2
          go_round
          case rel => exact ⟨n + 1, by omega, by omega, by go_num⟩
          case measure => simp [intOf]; omega
end Go.Proofs.Ytifigkkghfjhpaa
