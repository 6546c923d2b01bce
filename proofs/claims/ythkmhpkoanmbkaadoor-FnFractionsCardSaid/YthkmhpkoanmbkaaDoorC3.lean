/-
  Contracts of the greatest common divisor and of a factor's order. Conditions: the arguments are not negative and fit an int64.
-/
import Derived.Test.YthkmhpkoanmbkaaDoorC1
import Derived.Test.YthkmhpkoanmbkaaDoorM1
namespace Go.Proofs.YthkmhpkoanmbkaaDoor
open Go.RowKit
set_option linter.unusedVariables false

def gcdI (a b : Int) : Int := ((Nat.gcd a.toNat b.toNat : Nat) : Int)
theorem gcdI_zero {a : Int} (h : 0 ≤ a) : gcdI a 0 = a := by simp [gcdI]; omega
theorem gcdI_step {a b : Int} (ha : 0 ≤ a) (hb : 0 < b) : gcdI b (a % b) = gcdI a b := by
  obtain ⟨m, rfl⟩ := Int.eq_ofNat_of_zero_le ha
  obtain ⟨n, rfl⟩ := Int.eq_ofNat_of_zero_le (Int.le_of_lt hb)
  unfold gcdI
  rw [← Int.natCast_emod]
  simp only [Int.toNat_natCast]
  rw [Nat.gcd_comm n, ← Nat.gcd_rec, Nat.gcd_comm]
theorem gcdI_le {a b : Int} (ha : 0 ≤ a) (hb : 0 < b) : 0 < gcdI a b ∧ gcdI a b ≤ b := by
  obtain ⟨m, rfl⟩ := Int.eq_ofNat_of_zero_le ha
  obtain ⟨n, rfl⟩ := Int.eq_ofNat_of_zero_le (Int.le_of_lt hb)
  have h1 := Nat.gcd_le_right m (n := n) (by omega)
  have h2 := Nat.gcd_pos_of_pos_right m (n := n) (by omega)
  unfold gcdI
  simp only [Int.toNat_natCast]; omega
theorem tdiv_bd {n M G : Int} (h : -M ≤ n) (h' : n ≤ M) (hG : 1 ≤ G) : -M ≤ n.tdiv G ∧ n.tdiv G ≤ M := by
  have e : (n.tdiv G).natAbs = n.natAbs / G.natAbs := Int.natAbs_tdiv n G
  have l := Nat.div_le_self n.natAbs G.natAbs
  omega
theorem gcdI_nonneg (a b : Int) : 0 ≤ gcdI a b := by unfold gcdI; omega

theorem l01Gcd_any (a b : Int) (w : World) (a0 : 0 ≤ a) (a1 : a ≤ 9223372036854775807) (b0 : 0 ≤ b) (b1 : b ≤ 9223372036854775807) :
    Calls Tryd.prog 35 #[.int .i64 a, .int .i64 b] w fun e w' => e = .returned (.int .i64 (gcdI a b)) ∧ w = w' := by
  go_enter Tryd.func35, Tryd.ntmps35
  go_wp2
  go_loop [0, 1] (fun x y => ∃ p q : Int, 0 ≤ p ∧ p ≤ 9223372036854775807 ∧ 0 ≤ q ∧ q ≤ 9223372036854775807 ∧ x = .int .i64 p ∧ y = .int .i64 q ∧ Hid (gcdI p q = gcdI a b)) (fun _ y => (intOf y).toNat)
  case atStart => exact ⟨a, b, a0, a1, b0, b1, rfl, rfl, Lib.hid rfl⟩
  case round =>
    obtain ⟨p, q, p0, p1, q0, q1, rfl, rfl, hg⟩ := hrel
    by_cases hq : 0 < q
    · have m0 : 0 ≤ p % q := Int.emod_nonneg _ (by omega)
      have m1 : p % q < q := Int.emod_lt_of_pos _ hq
      have HG := Lib.hid (gcdI_step p0 hq)
      go_wp2
      go_round
      case rel => exact ⟨q, p % q, by omega, by omega, by omega, by omega, rfl, rfl, Lib.hid (by rw [HG.out, hg.out])⟩
      case measure => simp [intOf]; omega
    · have hz : q = 0 := by omega
      subst hz
      have HG := Lib.hid (gcdI_zero p0)
      go_wp2
      go_ret
      exact ⟨ret_i64 (by rw [← hg.out, HG.out]), rfl⟩
theorem l01Gcd_of {a b g : Int} {w : World} (h : Hid (gcdI a b = g)) (a0 : 0 ≤ a) (a1 : a ≤ 9223372036854775807) (b0 : 0 ≤ b) (b1 : b ≤ 9223372036854775807) :
    Calls Tryd.prog 35 #[.int .i64 a, .int .i64 b] w fun e w' => e = .returned (.int .i64 g) ∧ w = w' := by
  have e := h.out
  subst e
  exact l01Gcd_any a b w a0 a1 b0 b1
theorem divisor_any (a b : Int) (w : World) (a0 : 0 ≤ a) (a1 : a ≤ 9223372036854775807) (b0 : 0 ≤ b) (b1 : b ≤ 9223372036854775807) :
    Calls Tryd.prog 31 #[.int .i64 a, .int .i64 b] w fun e w' => e = .returned (.int .i64 (gcdI a b)) ∧ ∃ n, w' = w.drewN n := by
  go_enter Tryd.func31, Tryd.ntmps31
  go_wp2
  go_loopw [0, 1] (fun x y wr => ∃ p q : Int, 0 ≤ p ∧ p ≤ 9223372036854775807 ∧ 0 ≤ q ∧ q ≤ 9223372036854775807 ∧ x = .int .i64 p ∧ y = .int .i64 q ∧ Hid (gcdI p q = gcdI a b) ∧ ∃ n, wr = w.drewN n) (fun _ y _ => (intOf y).toNat)
  case atStart => exact ⟨a, b, a0, a1, b0, b1, rfl, rfl, Lib.hid rfl, 0, rfl⟩
  case round =>
    obtain ⟨p, q, p0, p1, q0, q1, rfl, rfl, hg, n, rfl⟩ := hrel
    by_cases hq : q = 0
    · subst hq
      have HG := Lib.hid (gcdI_zero p0)
      go_wp2
      go_ret
      exact ⟨ret_i64 (by rw [← hg.out, HG.out]), n, rfl⟩
    · have hq' : 0 < q := by omega
      have m0 : 0 ≤ p % q := Int.emod_nonneg _ (by omega)
      have m1 : p % q < q := Int.emod_lt_of_pos _ hq'
      have HG := Lib.hid (gcdI_step p0 hq')
      go_wp2
      go_quiet (fail)
      go_wp2
      go_roundw
      case rel => exact ⟨q, p % q, by omega, by omega, by omega, by omega, rfl, rfl, Lib.hid (by rw [HG.out, hg.out]), _, by rw [World.drewN_drewN]⟩
      case measure => simp [intOf]; omega
theorem divisor_of {a b g : Int} {w : World} (h : Hid (gcdI a b = g)) (a0 : 0 ≤ a) (a1 : a ≤ 9223372036854775807) (b0 : 0 ≤ b) (b1 : b ≤ 9223372036854775807) :
    Calls Tryd.prog 31 #[.int .i64 a, .int .i64 b] w fun e w' => e = .returned (.int .i64 g) ∧ ∃ n, w' = w.drewN n := by
  have e := h.out
  subst e
  exact divisor_any a b w a0 a1 b0 b1
/-- FactorOrder's two results. -/
def foB (a m : Int) : Bool := inR m 2 100000 && (inR a 0 (m - 1) && (gcdI a m == 1))
def foN (a m : Int) : Int := if foB a m = true then ((ord a.toNat m.toNat : Nat) : Int) else 0
theorem foB_true {a m : Int} (h : foB a m = true) : (2 ≤ m ∧ m ≤ 100000) ∧ (0 ≤ a ∧ a ≤ m - 1) ∧ gcdI a m = 1 := by
  simp only [foB, Bool.and_eq_true, beq_iff_eq] at h
  exact ⟨inR_true h.1, inR_true h.2.1, h.2.2⟩

end Go.Proofs.YthkmhpkoanmbkaaDoor
