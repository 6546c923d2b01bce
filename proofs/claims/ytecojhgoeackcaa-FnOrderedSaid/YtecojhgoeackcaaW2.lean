/-
  The walk of the law FnOrdered: the order of a factor is the least power with the remainder 1, and there is one exactly if the factor is coprime. No condition.
-/
import Derived.Test.YtecojhgoeackcaaC3
import Derived.Test.YtecojhgoeackcaaC4
namespace Go.Proofs.Ytecojhgoeackcaa
open Go.RowKit
set_option linter.unusedVariables false

theorem FnOrdered_walk (a0 : Option Addr) (len0 cap0 : Nat) (z0 : List Int) (a1 : Option Addr) (len1 cap1 : Nat) (z1 : List Int) (w : World) (w0 : IsRow .u8 w a0 len0 cap0 z0) (w1 : IsRow .u8 w a1 len1 cap1 z1) :
    Calls Try.prog 8 #[.slice a0 len0 cap0, .slice a1 len1 cap1] w fun e w' => e = .returned (.bool true) ∧ Below w.heap.size w w' := by
  obtain ⟨g0, _, _⟩ := w0.len_le
  obtain ⟨g1, _, _⟩ := w1.len_le
  cases hl : long2 len0 len1 with
  | true =>
    have HW0 := Lib.hid w0
    have HW1 := Lib.hid w1
    clear w0 w1
    go_enter Try.func8, Try.ntmps8
    go_wp2_with (go_at_call 19; refine (b10Long_of g0 g1 hl).mono ?_; rintro e w' ⟨rfl, rfl⟩)
    go_ret
    exact ⟨rfl, bw_refl _⟩
  | false =>
    obtain ⟨d, H1⟩ : ∃ d, Hid (b10 z0 len0 0 200 = d) := ⟨_, Lib.hid rfl⟩
    have b1 : 0 ≤ d ∧ d < 200 := H1.out ▸ b10_lt z0 len0 0 (n := 200) (by omega)
    obtain ⟨a, H2⟩ : ∃ a, Hid (b10 z1 len1 0 (2 + d) = a) := ⟨_, Lib.hid rfl⟩
    have b2 : 0 ≤ a ∧ a < 2 + d := H2.out ▸ b10_lt z1 len1 0 (n := 2 + d) (by omega)
    have HW0 := Lib.hid w0
    have HW1 := Lib.hid w1
    clear w0 w1
    obtain ⟨D, rfl⟩ := Int.eq_ofNat_of_zero_le b1.1
    obtain ⟨A, rfl⟩ := Int.eq_ofNat_of_zero_le b2.1
    have e1 : (1 : Int) % (2 + (D : Int)) = 1 := Int.emod_eq_of_lt (by omega) (by omega)
    have eM : (2 + (D : Int)) = ((2 + D : Nat) : Int) := by omega
    have eT : (2 + (D : Int)).toNat = 2 + D := by omega
    have i1 : inR (2 + (D : Int)) 2 100000 = true := inR_mk (by omega) (by omega)
    have i2 : inR (A : Int) 0 (2 + (D : Int) - 1) = true := inR_mk (by omega) (by omega)
    by_cases hg : Nat.gcd A (2 + D) = 1
    · have hgI : gcdI (A : Int) (2 + (D : Int)) = 1 := by
        unfold gcdI; rw [Int.toNat_natCast, eT, hg]; rfl
      have HB : Hid (foB (A : Int) (2 + (D : Int)) = true) := Lib.hid (by simp [foB, i1, i2, hgI])
      obtain ⟨o1, o2, o3, o4⟩ := ord_spec (a := A) (m := 2 + D) (by omega) hg
      have HN : Hid (foN (A : Int) (2 + (D : Int)) = ((ord A (2 + D) : Nat) : Int)) := Lib.hid (by unfold foN; rw [if_pos HB.out, Int.toNat_natCast, eT])
      generalize ord A (2 + D) = O at *
      have H3 := Lib.hid o3
      have H4 := Lib.hid o4
      have EM := Lib.hid eM
      clear o3 o4 hgI hg eM eT i1 i2
      go_enter Try.func8, Try.ntmps8
      go_wp2_with (first | (go_at_call 19; refine (b10Long_of g0 g1 hl).mono ?_; rintro e w' ⟨rfl, rfl⟩) | (go_at_call 20; (first | (with_reducible refine (b10At_of HW0.out (by omega) (by omega) (by omega) H1).mono ?_) | (with_reducible refine (b10At_of HW1.out (by omega) (by omega) (by omega) H2).mono ?_)); rintro e w' ⟨rfl, rfl⟩) | (go_at_call 21; refine (FactorOrder_of HB HN).mono ?_; rintro e w' ⟨rfl, n, rfl⟩))
      go_loop [9, 10] (fun x i => ∃ (k : Nat) (X : Int), 1 ≤ k ∧ k ≤ O ∧ 0 ≤ X ∧ X < 2 + (D : Int) ∧ i = .int .i64 k ∧ x = .int .i64 X ∧ Hid (X = ((A ^ (k - 1) % (2 + D) : Nat) : Int))) (fun _ i => O + 1 - (intOf i).toNat)
      case atStart => exact ⟨1, 1, by omega, by omega, by omega, by omega, rfl, vi64 e1, Lib.hid (by rw [Nat.sub_self, Nat.pow_zero, Nat.mod_eq_of_lt (by omega)]; rfl)⟩
      case round =>
        obtain ⟨k, X, k1, kO, x0, x1, rfl, rfl, hX⟩ := hrel
        have hp : X * (A : Int) ≤ 201 * 201 := Int.mul_le_mul (by omega) (by omega) (by omega) (by omega)
        have hp0 : 0 ≤ X * (A : Int) := Int.mul_nonneg x0 (by omega)
        obtain ⟨Y, hy⟩ : ∃ Y : Int, X * (A : Int) % (2 + (D : Int)) = Y := ⟨_, rfl⟩
        have y0 : 0 ≤ Y := hy ▸ Int.emod_nonneg _ (by omega)
        have y1 : Y < 2 + (D : Int) := hy ▸ Int.emod_lt_of_pos _ (by omega)
        have HY : Hid (Y = ((A ^ k % (2 + D) : Nat) : Int)) := Lib.hid (by
          rw [← hy, hX.out, EM.out, ← Int.natCast_mul, ← Int.natCast_emod, Nat.mod_mul_mod, ← Nat.pow_succ, Nat.succ_eq_add_one, show k - 1 + 1 = k by omega])
        by_cases hx : Y = 1
        · have hkO : k = O := by
            rcases Nat.lt_or_ge k O with h | h
            · exact absurd (by have := HY.out; omega) (H4.out k k1 h)
            · omega
          subst hkO
          go_wp2
          go_ret
          exact ⟨rfl, bw_drewN (bw_refl _) _⟩
        · have hkO : k < O := by
            rcases Nat.lt_or_ge k O with h | h
            · exact h
            · have : k = O := by omega
              subst this
              exact absurd (by rw [HY.out, H3.out]; rfl) hx
          go_wp2
          go_round
          case rel => exact ⟨k + 1, Y, by omega, by omega, y0, y1, by go_num, vi64 hy, Lib.hid (by rw [HY.out, Nat.add_sub_cancel])⟩
          case measure => simp [intOf]; omega
    · have hgI : ¬ gcdI (A : Int) (2 + (D : Int)) = 1 := by
        unfold gcdI; rw [Int.toNat_natCast, eT]; omega
      have HB : Hid (foB (A : Int) (2 + (D : Int)) = false) := Lib.hid (by simp [foB, i1, i2, hgI])
      have HN : Hid (foN (A : Int) (2 + (D : Int)) = 0) := Lib.hid (by unfold foN; rw [HB.out]; rfl)
      have EM := Lib.hid eM
      have HG := Lib.hid hg
      clear hgI hg eM eT i1 i2
      go_enter Try.func8, Try.ntmps8
      go_wp2_with (first | (go_at_call 19; refine (b10Long_of g0 g1 hl).mono ?_; rintro e w' ⟨rfl, rfl⟩) | (go_at_call 20; (first | (with_reducible refine (b10At_of HW0.out (by omega) (by omega) (by omega) H1).mono ?_) | (with_reducible refine (b10At_of HW1.out (by omega) (by omega) (by omega) H2).mono ?_)); rintro e w' ⟨rfl, rfl⟩) | (go_at_call 21; refine (FactorOrder_of HB HN).mono ?_; rintro e w' ⟨rfl, n, rfl⟩))
      go_loop [9, 10] (fun x i => ∃ (k : Nat) (X : Int), 1 ≤ k ∧ k ≤ 3 + D ∧ 0 ≤ X ∧ X < 2 + (D : Int) ∧ i = .int .i64 k ∧ x = .int .i64 X ∧ Hid (X = ((A ^ (k - 1) % (2 + D) : Nat) : Int))) (fun _ i => 3 + D - (intOf i).toNat)
      case atStart => exact ⟨1, 1, by omega, by omega, by omega, by omega, rfl, vi64 e1, Lib.hid (by rw [Nat.sub_self, Nat.pow_zero, Nat.mod_eq_of_lt (by omega)]; rfl)⟩
      case round =>
        obtain ⟨k, X, k1, kO, x0, x1, rfl, rfl, hX⟩ := hrel
        by_cases hk : k ≤ 2 + D
        · have hp : X * (A : Int) ≤ 201 * 201 := Int.mul_le_mul (by omega) (by omega) (by omega) (by omega)
          have hp0 : 0 ≤ X * (A : Int) := Int.mul_nonneg x0 (by omega)
          obtain ⟨Y, hy⟩ : ∃ Y : Int, X * (A : Int) % (2 + (D : Int)) = Y := ⟨_, rfl⟩
          have y0 : 0 ≤ Y := hy ▸ Int.emod_nonneg _ (by omega)
          have y1 : Y < 2 + (D : Int) := hy ▸ Int.emod_lt_of_pos _ (by omega)
          have HY : Hid (Y = ((A ^ k % (2 + D) : Nat) : Int)) := Lib.hid (by
            rw [← hy, hX.out, EM.out, ← Int.natCast_mul, ← Int.natCast_emod, Nat.mod_mul_mod, ← Nat.pow_succ, Nat.succ_eq_add_one, show k - 1 + 1 = k by omega])
          have hx : ¬ Y = 1 := fun h => HG.out (pow_not_one (n := k) (by omega) k1 (by have := HY.out; omega))
          go_wp2
          go_round
          case rel => exact ⟨k + 1, Y, by omega, by omega, y0, y1, by go_num, vi64 hy, Lib.hid (by rw [HY.out, Nat.add_sub_cancel])⟩
          case measure => simp [intOf]; omega
        · go_wp2
          go_ret
          exact ⟨ret_bool (by simp; omega), bw_drewN (bw_refl _) _⟩
end Go.Proofs.Ytecojhgoeackcaa
