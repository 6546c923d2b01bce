/-
  Contracts of the greatest common divisor and of a factor's order. Conditions: the arguments are not negative and fit an int64.
-/
import Derived.Test.YtecojhgoeackcabC1
import Derived.Test.YtecojhgoeackcabM1
namespace Go.Proofs.Ytecojhgoeackcab
open Go.RowKit
set_option linter.unusedVariables false

def gcdI (a b : Int) : Int := ((Nat.gcd a.toNat b.toNat : Nat) : Int)
theorem gcdI_zero {a : Int} (h : 0 ≤ a) : gcdI a 0 = a := by simp [gcdI]; omega
theorem gcdI_step {a b : Int} (ha : 0 ≤ a) (hb : 0 < b) : gcdI b (a % b) = gcdI a b := by
  obtain ⟨m, rfl⟩ := Int.eq_ofNat_of_zero_le ha
  obtain ⟨n, rfl⟩ := Int.eq_ofNat_of_zero_le (Int.le_of_lt hb)
  unfold gcdI
  rw [← Int.natCast_emod]
  simp only [Int.toNat_natCast]
  rw [Nat.gcd_comm n, ← Nat.gcd_rec, Nat.gcd_comm]
theorem gcdI_le {a b : Int} (ha : 0 ≤ a) (hb : 0 < b) : 0 < gcdI a b ∧ gcdI a b ≤ b := by
  obtain ⟨m, rfl⟩ := Int.eq_ofNat_of_zero_le ha
  obtain ⟨n, rfl⟩ := Int.eq_ofNat_of_zero_le (Int.le_of_lt hb)
  have h1 := Nat.gcd_le_right m (n := n) (by omega)
  have h2 := Nat.gcd_pos_of_pos_right m (n := n) (by omega)
  unfold gcdI
  simp only [Int.toNat_natCast]; omega
theorem gcdI_nonneg (a b : Int) : 0 ≤ gcdI a b := by unfold gcdI; omega

theorem l01Gcd_any (a b : Int) (w : World) (a0 : 0 ≤ a) (a1 : a ≤ 9223372036854775807) (b0 : 0 ≤ b) (b1 : b ≤ 9223372036854775807) :
    Calls Try.prog 46 #[.int .i64 a, .int .i64 b] w fun e w' => e = .returned (.int .i64 (gcdI a b)) ∧ w = w' := by
  go_enter Try.func46, Try.ntmps46
  go_wp2
  go_loop [0, 1] (fun x y => ∃ p q : Int, 0 ≤ p ∧ p ≤ 9223372036854775807 ∧ 0 ≤ q ∧ q ≤ 9223372036854775807 ∧ x = .int .i64 p ∧ y = .int .i64 q ∧ Hid (gcdI p q = gcdI a b)) (fun _ y => (intOf y).toNat)
  case atStart => exact ⟨a, b, a0, a1, b0, b1, rfl, rfl, Lib.hid rfl⟩
  case round =>
    obtain ⟨p, q, p0, p1, q0, q1, rfl, rfl, hg⟩ := hrel
    by_cases hq : 0 < q
    · have m0 : 0 ≤ p % q := Int.emod_nonneg _ (by omega)
      have m1 : p % q < q := Int.emod_lt_of_pos _ hq
      have HG := Lib.hid (gcdI_step p0 hq)
      go_wp2
      go_round
      case rel => exact ⟨q, p % q, by omega, by omega, by omega, by omega, rfl, rfl, Lib.hid (by rw [HG.out, hg.out])⟩
      case measure => simp [intOf]; omega
    · have hz : q = 0 := by omega
      subst hz
      have HG := Lib.hid (gcdI_zero p0)
      go_wp2
      go_ret
      exact ⟨ret_i64 (by rw [← hg.out, HG.out]), rfl⟩
theorem divisor_any (a b : Int) (w : World) (a0 : 0 ≤ a) (a1 : a ≤ 9223372036854775807) (b0 : 0 ≤ b) (b1 : b ≤ 9223372036854775807) :
    Calls Try.prog 47 #[.int .i64 a, .int .i64 b] w fun e w' => e = .returned (.int .i64 (gcdI a b)) ∧ ∃ n, w' = w.drewN n := by
  go_enter Try.func47, Try.ntmps47
  go_wp2
  go_loopw [0, 1] (fun x y wr => ∃ p q : Int, 0 ≤ p ∧ p ≤ 9223372036854775807 ∧ 0 ≤ q ∧ q ≤ 9223372036854775807 ∧ x = .int .i64 p ∧ y = .int .i64 q ∧ Hid (gcdI p q = gcdI a b) ∧ ∃ n, wr = w.drewN n) (fun _ y _ => (intOf y).toNat)
  case atStart => exact ⟨a, b, a0, a1, b0, b1, rfl, rfl, Lib.hid rfl, 0, rfl⟩
  case round =>
    obtain ⟨p, q, p0, p1, q0, q1, rfl, rfl, hg, n, rfl⟩ := hrel
    by_cases hq : q = 0
    · subst hq
      have HG := Lib.hid (gcdI_zero p0)
      go_wp2
      go_ret
      exact ⟨ret_i64 (by rw [← hg.out, HG.out]), n, rfl⟩
    · have hq' : 0 < q := by omega
      have m0 : 0 ≤ p % q := Int.emod_nonneg _ (by omega)
      have m1 : p % q < q := Int.emod_lt_of_pos _ hq'
      have HG := Lib.hid (gcdI_step p0 hq')
      go_wp2
      go_quiet (fail)
      go_wp2
      go_roundw
      case rel => exact ⟨q, p % q, by omega, by omega, by omega, by omega, rfl, rfl, Lib.hid (by rw [HG.out, hg.out]), _, by rw [World.drewN_drewN]⟩
      case measure => simp [intOf]; omega
/-- FactorOrder's two results. -/
def foB (a m : Int) : Bool := inR m 2 100000 && (inR a 0 (m - 1) && (gcdI a m == 1))
def foN (a m : Int) : Int := if foB a m = true then ((ord a.toNat m.toNat : Nat) : Int) else 0
theorem foB_true {a m : Int} (h : foB a m = true) : (2 ≤ m ∧ m ≤ 100000) ∧ (0 ≤ a ∧ a ≤ m - 1) ∧ gcdI a m = 1 := by
  simp only [foB, Bool.and_eq_true, beq_iff_eq] at h
  exact ⟨inR_true h.1, inR_true h.2.1, h.2.2⟩

theorem FactorOrder_any (a m : Int) (w : World) :
    Calls Try.prog 24 #[.int .i64 a, .int .i64 m] w fun e w' => e = .returned (.tuple #[.int .i64 (foN a m), .bool (foB a m)]) ∧ ∃ n, w' = w.drewN n := by
  cases hB : foB a m with
  | false =>
    have hN : foN a m = 0 := by simp [foN, hB]
    rw [hN]; clear hN
    cases h1 : inR m 2 100000 with
    | false =>
      clear hB
      go_enter Try.func24, Try.ntmps24
      go_wp2_with (go_at_call 35; refine (inRange_of h1 _).mono ?_; rintro e w' ⟨rfl, rfl⟩)
      go_ret2
      exact ⟨rfl, 0, rfl⟩
    | true =>
      have b1 := inR_true h1
      cases h2 : inR a 0 (m-1) with
      | false =>
        clear hB
        go_enter Try.func24, Try.ntmps24
        go_wp2_with (go_at_call 35; (first | (with_reducible refine (inRange_of h1 _).mono ?_) | (with_reducible refine (inRange_of h2 _).mono ?_)); rintro e w' ⟨rfl, rfl⟩)
        go_ret2
        exact ⟨rfl, 0, rfl⟩
      | true =>
        have b2 := inR_true h2
        have h3 : (gcdI a m == 1) = false := by simpa [foB, h1, h2] using hB
        clear hB
        go_enter Try.func24, Try.ntmps24
        go_wp2_with (first | (go_at_call 35; (first | (with_reducible refine (inRange_of h1 _).mono ?_) | (with_reducible refine (inRange_of h2 _).mono ?_)); rintro e w' ⟨rfl, rfl⟩) | (go_at_call 47; refine (divisor_any a m _ (by omega) (by omega) (by omega) (by omega)).mono ?_; rintro e w' ⟨rfl, n, rfl⟩))
        go_ret2
        exact ⟨rfl, _, rfl⟩
  | true =>
    obtain ⟨b1, b2, h3⟩ := foB_true hB
    have hN : foN a m = ((ord a.toNat m.toNat : Nat) : Int) := by simp [foN, hB]
    rw [hN]; clear hN hB
    have h1 := inR_mk b1.1 b1.2
    have h2 := inR_mk b2.1 b2.2
    obtain ⟨A, rfl⟩ := Int.eq_ofNat_of_zero_le b2.1
    obtain ⟨M, rfl⟩ := Int.eq_ofNat_of_zero_le (show 0 ≤ m by omega)
    have hg : Nat.gcd A M = 1 := by
      have : ((Nat.gcd A M : Nat) : Int) = 1 := by simpa [gcdI] using h3
      omega
    obtain ⟨o1, o2, o3, o4⟩ := ord_spec (by omega) hg
    simp only [Int.toNat_natCast]
    generalize ord A M = O at *
    have h4 : (gcdI A M == 1) = true := by simp [h3]
    have H3 := Lib.hid o3
    have H4 := Lib.hid o4
    clear o3 o4 h3 hg
    go_enter Try.func24, Try.ntmps24
    go_wp2_with (first | (go_at_call 35; (first | (with_reducible refine (inRange_of h1 _).mono ?_) | (with_reducible refine (inRange_of h2 _).mono ?_)); rintro e w' ⟨rfl, rfl⟩) | (go_at_call 47; refine (divisor_any A M _ (by omega) (by omega) (by omega) (by omega)).mono ?_; rintro e w' ⟨rfl, n, rfl⟩))
    go_loop [6, 7] (fun n x => ∃ k X : Nat, 1 ≤ k ∧ k ≤ O ∧ X < M ∧ n = .int .i64 k ∧ x = .int .i64 X ∧ Hid (X = A ^ k % M)) (fun n _ => O - (intOf n).toNat)
    case atStart => exact ⟨1, A, by omega, by omega, by omega, rfl, rfl, Lib.hid (by rw [Nat.pow_one, Nat.mod_eq_of_lt (by omega)])⟩
    case round =>
      obtain ⟨k, X, k1, kO, xM, rfl, rfl, hX⟩ := hrel
      by_cases hx : X = 1
      · have hkO : k = O := by
          rcases Nat.lt_or_ge k O with h | h
          · exact absurd (hX.out.symm.trans hx) (H4.out k k1 h)
          · omega
        subst hx
        subst hkO
        go_wp2
        go_ret2
        exact ⟨rfl, _, rfl⟩
      · have hkO : k < O := by
          rcases Nat.lt_or_ge k O with h | h
          · exact h
          · have : k = O := by omega
            subst this
            exact absurd (hX.out.trans H3.out) hx
        have hp : (X : Int) * (A : Int) ≤ 10000000000 := by
          have : X * A ≤ 100000 * 100000 := Nat.mul_le_mul (by omega) (by omega)
          rw [← Int.natCast_mul]; omega
        have hp0 : 0 ≤ (X : Int) * (A : Int) := by rw [← Int.natCast_mul]; omega
        go_wp2
        go_round
        case rel => exact ⟨k + 1, X * A % M, by omega, by omega, Nat.mod_lt _ (by omega), by go_num, by simp, Lib.hid (by rw [hX.out, Nat.pow_succ, Nat.mod_mul_mod])⟩
        case measure => simp [intOf]; omega
theorem FactorOrder_of {a m n : Int} {b : Bool} {w : World} (hB : Hid (foB a m = b)) (hN : Hid (foN a m = n)) :
    Calls Try.prog 24 #[.int .i64 a, .int .i64 m] w fun e w' => e = .returned (.tuple #[.int .i64 n, .bool b]) ∧ ∃ n, w' = w.drewN n := by
  have h1 := hB.out
  have h2 := hN.out
  subst h1
  subst h2
  exact FactorOrder_any a m w
theorem sFactorOrder_any (a m : Int) (w : World) :
    Calls Try.prog 23 #[.int .i64 a, .int .i64 m] w fun e w' => e = .returned (.tuple #[.int .i64 (foN a m), .bool (foB a m)]) ∧ w = w' := by
  cases hB : foB a m with
  | false =>
    have hN : foN a m = 0 := by simp [foN, hB]
    rw [hN]; clear hN
    cases h1 : inR m 2 100000 with
    | false =>
      clear hB
      go_enter Try.func23, Try.ntmps23
      go_wp2_with (go_at_call 39; refine (l00In_of h1 _).mono ?_; rintro e w' ⟨rfl, rfl⟩)
      go_ret2
      exact ⟨rfl, rfl⟩
    | true =>
      have b1 := inR_true h1
      cases h2 : inR a 0 (m-1) with
      | false =>
        clear hB
        go_enter Try.func23, Try.ntmps23
        go_wp2_with (go_at_call 39; (first | (with_reducible refine (l00In_of h1 _).mono ?_) | (with_reducible refine (l00In_of h2 _).mono ?_)); rintro e w' ⟨rfl, rfl⟩)
        go_ret2
        exact ⟨rfl, rfl⟩
      | true =>
        have b2 := inR_true h2
        have h3 : (gcdI a m == 1) = false := by simpa [foB, h1, h2] using hB
        clear hB
        go_enter Try.func23, Try.ntmps23
        go_wp2_with (first | (go_at_call 39; (first | (with_reducible refine (l00In_of h1 _).mono ?_) | (with_reducible refine (l00In_of h2 _).mono ?_)); rintro e w' ⟨rfl, rfl⟩) | (go_at_call 46; refine (l01Gcd_any a m _ (by omega) (by omega) (by omega) (by omega)).mono ?_; rintro e w' ⟨rfl, rfl⟩))
        go_ret2
        exact ⟨rfl, rfl⟩
  | true =>
    obtain ⟨b1, b2, h3⟩ := foB_true hB
    have hN : foN a m = ((ord a.toNat m.toNat : Nat) : Int) := by simp [foN, hB]
    rw [hN]; clear hN hB
    have h1 := inR_mk b1.1 b1.2
    have h2 := inR_mk b2.1 b2.2
    obtain ⟨A, rfl⟩ := Int.eq_ofNat_of_zero_le b2.1
    obtain ⟨M, rfl⟩ := Int.eq_ofNat_of_zero_le (show 0 ≤ m by omega)
    have hg : Nat.gcd A M = 1 := by
      have : ((Nat.gcd A M : Nat) : Int) = 1 := by simpa [gcdI] using h3
      omega
    obtain ⟨o1, o2, o3, o4⟩ := ord_spec (by omega) hg
    simp only [Int.toNat_natCast]
    generalize ord A M = O at *
    have h4 : (gcdI A M == 1) = true := by simp [h3]
    have H3 := Lib.hid o3
    have H4 := Lib.hid o4
    clear o3 o4 h3 hg
    go_enter Try.func23, Try.ntmps23
    go_wp2_with (first | (go_at_call 39; (first | (with_reducible refine (l00In_of h1 _).mono ?_) | (with_reducible refine (l00In_of h2 _).mono ?_)); rintro e w' ⟨rfl, rfl⟩) | (go_at_call 46; refine (l01Gcd_any A M _ (by omega) (by omega) (by omega) (by omega)).mono ?_; rintro e w' ⟨rfl, rfl⟩))
    go_loop [6, 7] (fun n x => ∃ k X : Nat, 1 ≤ k ∧ k ≤ O ∧ X < M ∧ n = .int .i64 k ∧ x = .int .i64 X ∧ Hid (X = A ^ k % M)) (fun n _ => O - (intOf n).toNat)
    case atStart => exact ⟨1, A, by omega, by omega, by omega, rfl, rfl, Lib.hid (by rw [Nat.pow_one, Nat.mod_eq_of_lt (by omega)])⟩
    case round =>
      obtain ⟨k, X, k1, kO, xM, rfl, rfl, hX⟩ := hrel
      by_cases hx : X = 1
      · have hkO : k = O := by
          rcases Nat.lt_or_ge k O with h | h
          · exact absurd (hX.out.symm.trans hx) (H4.out k k1 h)
          · omega
        subst hx
        subst hkO
        go_wp2
        go_ret2
        exact ⟨rfl, rfl⟩
      · have hkO : k < O := by
          rcases Nat.lt_or_ge k O with h | h
          · exact h
          · have : k = O := by omega
            subst this
            exact absurd (hX.out.trans H3.out) hx
        have hp : (X : Int) * (A : Int) ≤ 10000000000 := by
          have : X * A ≤ 100000 * 100000 := Nat.mul_le_mul (by omega) (by omega)
          rw [← Int.natCast_mul]; omega
        have hp0 : 0 ≤ (X : Int) * (A : Int) := by rw [← Int.natCast_mul]; omega
        go_wp2
        go_round
        case rel => exact ⟨k + 1, X * A % M, by omega, by omega, Nat.mod_lt _ (by omega), by go_num, by simp, Lib.hid (by rw [hX.out, Nat.pow_succ, Nat.mod_mul_mod])⟩
        case measure => simp [intOf]; omega
end Go.Proofs.Ytecojhgoeackcab
