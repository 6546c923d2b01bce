/-
  Contracts of the polynomials' degree, product and division. Conditions: the numbers are not negative and fit an int64.
-/
import Derived.Test.YtkepnjdomlfpdaaC15
import Derived.Test.YtkepnjdomlfpdaaM5
import Derived.Test.YtkepnjdomlfpdaaBits
import Derived.Test.YtkepnjdomlfpdaaShelf
import Derived.Lib.ItoaNum
namespace Go.Proofs.Ytkepnjdomlfpdaa
open Go.RowKit
set_option linter.unusedVariables false

theorem lib_bitLen {x : Nat} (h : x < 18446744073709551616) : Lib.bitLen x = bl x := by
  by_cases h0 : x = 0
  · subst h0
    exact Lib.bitLenAux_zero 64
  · have := Lib.bitLenAux_bounds 64 x (by simpa using h) h0
    unfold Lib.bitLen
    exact (bl_eq' this.1 this.2.1 this.2.2).symm
theorem degree_any (p : Nat) (w : World) (h : p < 9223372036854775808) :
    Calls Try.prog 46 #[.int .i64 p] w fun e w' => e = .returned (.int .i64 ((bl p : Int) - 1)) ∧ w = w' := by
  have l : bl p ≤ 63 := bl_le (by simpa using h)
  have u : IntKind.u64.wrap (p : Int) = p := IntWalk.u64_in _ (by omega)
  go_enter Try.func46, Try.ntmps46
  go_wp2_with (go_at_call 60; refine (Try.bits_Len64 _ _ (by omega) (by omega)).mono ?_; rw [Int.toNat_natCast, lib_bitLen (by omega)]; rintro e w1 ⟨rfl, rfl⟩)
  go_ret
  exact ⟨rfl, rfl⟩
theorem l02Degree_any (p : Nat) (w : World) (h : p < 9223372036854775808) :
    Calls Try.prog 43 #[.int .i64 p] w fun e w' => e = .returned (.int .i64 ((bl p : Int) - 1)) ∧ w = w' := by
  have l : bl p ≤ 63 := bl_le (by simpa using h)
  obtain ⟨B, hB⟩ : ∃ B, bl p = B := ⟨_, rfl⟩
  rw [hB] at l ⊢
  have HB := Lib.hid hB
  clear hB
  go_enter Try.func43, Try.ntmps43
  go_wp2
  go_loop [0, 3] (fun x o => ∃ n : Nat, n ≤ p ∧ x = .int .i64 n ∧ o = .int .i64 ((B : Int) - (bl n : Nat) - 1) ∧ Hid (bl n ≤ B)) (fun x _ => (intOf x).toNat)
  case atStart => exact ⟨p, Nat.le_refl _, rfl, by rw [HB.out]; congr 1; omega, Lib.hid (by rw [HB.out]; exact Nat.le_refl _)⟩
  case round =>
    obtain ⟨n, hn, rfl, rfl, hl⟩ := hrel
    by_cases h0 : 0 < n
    · have e := bl_half (n := n) (by omega)
      have hl' := hl.out
      have HL := Lib.hid (show bl (n / 2) ≤ B by omega)
      obtain ⟨m, hm⟩ : ∃ m, bl (n / 2) = m := ⟨_, rfl⟩
      rw [hm] at e
      rw [e] at hl' ⊢
      have HM := Lib.hid hm
      clear hm e
      go_wp2
      go_round
      case rel => exact ⟨n / 2, by omega, by go_num, by rw [HM.out]; congr 1; omega, HL⟩
      case measure => simp [intOf]; omega
    · have e : n = 0 := by omega
      subst e
      rw [bl_zero]
      go_wp2
      go_ret
      exact ⟨ret_i64 (by omega), rfl⟩
theorem shl_nat {b s : Nat} (h : b * 2 ^ s < 9223372036854775808) : wrap64 ((b : Int) * 2 ^ s) = ((b * 2 ^ s : Nat) : Int) := by
  have e : (b : Int) * 2 ^ s = ((b * 2 ^ s : Nat) : Int) := by rw [Int.natCast_mul, Int.natCast_pow]; rfl
  rw [e]
  exact IntWalk.wrap64_in _ ⟨by omega, by omega⟩
theorem shl_one {s : Nat} (h : s < 63) : wrap64 (2 ^ s) = ((2 ^ s : Nat) : Int) := by
  have h1 := Nat.pow_lt_pow_right (a := 2) (by decide) h
  have h2 : (2 : Nat) ^ 63 = 9223372036854775808 := by decide
  have e : (2 : Int) ^ s = ((2 ^ s : Nat) : Int) := by rw [Int.natCast_pow]; rfl
  rw [e]
  generalize 2 ^ s = z at h1 ⊢
  exact IntWalk.wrap64_in _ ⟨by omega, by omega⟩
theorem dividePolys_any (a b : Nat) (w : World) (ha : a < 9223372036854775808) (hb : 0 < b) (hb2 : b < 9223372036854775808) :
    Calls Try.prog 48 #[.int .i64 a, .int .i64 b] w fun e w' => e = .returned (.tuple #[.int .i64 ((dv b 0 a).1 : Nat), .int .i64 ((dv b 0 a).2 : Nat)]) ∧ w = w' := by
  obtain ⟨Q, hQ⟩ : ∃ Q, Hid (dv b 0 a = Q) := ⟨_, Lib.hid rfl⟩
  rw [hQ.out]
  go_enter Try.func48, Try.ntmps48
  go_wp2
  go_loop [0, 6] (fun x y => ∃ m q : Nat, m < 9223372036854775808 ∧ q < 9223372036854775808 ∧ x = .int .i64 m ∧ y = .int .i64 q ∧ Hid (dv b q m = Q)) (fun x _ => (intOf x).toNat)
  case atStart => exact ⟨a, 0, ha, by decide, rfl, rfl, hQ⟩
  case round =>
    obtain ⟨m, q, hm, hq, rfl, rfl, hd⟩ := hrel
    have lb : bl b ≤ 63 := bl_le (by simpa using hb2)
    have lm : bl m ≤ 63 := bl_le (by simpa using hm)
    by_cases h : bl b ≤ bl m
    · have k := dv_keeps (n := 63) hb h (by simpa using hm) (by simpa using hq)
      have hless := dv_less ⟨hb, h⟩
      have HG := Lib.hid (dv_go (q := q) hb h)
      have HX := Lib.hid (i64_xor_nat m (b * 2 ^ (bl m - bl b)) hm (by simpa using k.1))
      have HO := Lib.hid (i64_or_nat q (2 ^ (bl m - bl b)) hq (by have := Nat.pow_lt_pow_right (a := 2) (by decide) k.2.2.2; simpa using this))
      go_wp2_with (go_at_call 46; (first | with_reducible refine (degree_any m _ hm).mono ?_ | with_reducible refine (degree_any b _ hb2).mono ?_); rintro e w' ⟨rfl, rfl⟩)
      have E : (((bl m : Nat) : Int) - 1 - (((bl b : Nat) : Int) - 1)).toNat = bl m - bl b := by omega
      rw [E, shl_nat (by simpa using k.1), shl_one k.2.2.2, HX.out, HO.out]
      go_round
      case rel => exact ⟨_, _, by simpa using k.2.1, by simpa using k.2.2.1, rfl, rfl, Lib.hid (by rw [← HG.out]; exact hd.out)⟩
      case measure => simp [intOf]; omega
    · have HE := Lib.hid (dv_end (q := q) (show bl m < bl b by omega))
      go_wp2_with (go_at_call 46; (first | with_reducible refine (degree_any m _ hm).mono ?_ | with_reducible refine (degree_any b _ hb2).mono ?_); rintro e w' ⟨rfl, rfl⟩)
      go_ret2
      exact ⟨by rw [← hd.out, HE.out]; rfl, rfl⟩
theorem l02Div_any (a b : Nat) (w : World) (ha : a < 9223372036854775808) (hb : 0 < b) (hb2 : b < 9223372036854775808) :
    Calls Try.prog 47 #[.int .i64 a, .int .i64 b] w fun e w' => e = .returned (.tuple #[.int .i64 ((dv b 0 a).1 : Nat), .int .i64 ((dv b 0 a).2 : Nat)]) ∧ w = w' := by
  obtain ⟨Q, hQ⟩ : ∃ Q, Hid (dv b 0 a = Q) := ⟨_, Lib.hid rfl⟩
  rw [hQ.out]
  go_enter Try.func47, Try.ntmps47
  go_wp2
  go_loop [0, 6] (fun x y => ∃ m q : Nat, m < 9223372036854775808 ∧ q < 9223372036854775808 ∧ x = .int .i64 m ∧ y = .int .i64 q ∧ Hid (dv b q m = Q)) (fun x _ => (intOf x).toNat)
  case atStart => exact ⟨a, 0, ha, by decide, rfl, rfl, hQ⟩
  case round =>
    obtain ⟨m, q, hm, hq, rfl, rfl, hd⟩ := hrel
    have lb : bl b ≤ 63 := bl_le (by simpa using hb2)
    have lm : bl m ≤ 63 := bl_le (by simpa using hm)
    by_cases h : bl b ≤ bl m
    · have k := dv_keeps (n := 63) hb h (by simpa using hm) (by simpa using hq)
      have hless := dv_less ⟨hb, h⟩
      have HG := Lib.hid (dv_go (q := q) hb h)
      have HX := Lib.hid (i64_xor_nat m (b * 2 ^ (bl m - bl b)) hm (by simpa using k.1))
      have HO := Lib.hid (i64_or_nat q (2 ^ (bl m - bl b)) hq (by have := Nat.pow_lt_pow_right (a := 2) (by decide) k.2.2.2; simpa using this))
      go_wp2_with (go_at_call 43; (first | with_reducible refine (l02Degree_any m _ hm).mono ?_ | with_reducible refine (l02Degree_any b _ hb2).mono ?_); rintro e w' ⟨rfl, rfl⟩)
      have E : (((bl m : Nat) : Int) - 1 - (((bl b : Nat) : Int) - 1)).toNat = bl m - bl b := by omega
      rw [E, shl_nat (by simpa using k.1), shl_one k.2.2.2, HX.out, HO.out]
      go_round
      case rel => exact ⟨_, _, by simpa using k.2.1, by simpa using k.2.2.1, rfl, rfl, Lib.hid (by rw [← HG.out]; exact hd.out)⟩
      case measure => simp [intOf]; omega
    · have HE := Lib.hid (dv_end (q := q) (show bl m < bl b by omega))
      go_wp2_with (go_at_call 43; (first | with_reducible refine (l02Degree_any m _ hm).mono ?_ | with_reducible refine (l02Degree_any b _ hb2).mono ?_); rintro e w' ⟨rfl, rfl⟩)
      go_ret2
      exact ⟨by rw [← hd.out, HE.out]; rfl, rfl⟩
theorem and_one_nat {b k : Nat} (h : b < 9223372036854775808) : bits .and .i64 ((b : Int) / 2 ^ k) 1 = ((b / 2 ^ k % 2 : Nat) : Int) := by
  have e : (b : Int) / 2 ^ k = ((b / 2 ^ k : Nat) : Int) := by rw [Int.natCast_ediv, Int.natCast_pow]; rfl
  have l := Nat.div_le_self b (2 ^ k)
  rw [e, show (1 : Int) = ((1 : Nat) : Int) from rfl, i64_and_nat _ _ (by omega) (by decide), Nat.and_one_is_mod]
theorem mulPolys_any (a b : Nat) (w : World) (ha : a < 4294967296) (hb : b < 4294967296) :
    Calls Try.prog 40 #[.int .i64 a, .int .i64 b] w fun e w' => e = .returned (.int .i64 (mulp a b : Nat)) ∧ w = w' := by
  have lb : bl b ≤ 32 := bl_le (by simpa using hb)
  have HM := Lib.hid (show mulK a b (bl b) = mulp a b from rfl)
  obtain ⟨L, hL⟩ : ∃ L, bl b = L := ⟨_, rfl⟩
  have HL := Lib.hid hL
  rw [hL] at HM lb
  clear hL
  go_enter Try.func40, Try.ntmps40
  go_wp2_with (go_at_call 46; refine (degree_any b _ (by omega)).mono ?_; rw [HL.out]; rintro e w' ⟨rfl, rfl⟩)
  go_loop [5, 10] (fun o i => ∃ k : Nat, k ≤ L ∧ i = .int .i64 k ∧ o = .int .i64 (mulK a b k : Nat)) (fun _ i => L - (intOf i).toNat)
  case atStart => exact ⟨0, Nat.zero_le _, rfl, rfl⟩
  case round =>
    obtain ⟨k, hk, rfl, rfl⟩ := hrel
    by_cases hlt : k < L
    · have hA := and_one_nat (k := k) (show b < 9223372036854775808 by omega)
      have k1 := mulK_lt63 ha (b := b) (k := k) (by omega)
      have k2 := mul_step_lt ha (show k < 32 by omega)
      obtain ⟨r, hr⟩ : ∃ r, mulK a b k = r := ⟨_, rfl⟩
      by_cases hbit : b / 2 ^ k % 2 = 1
      · rw [hbit] at hA
        have HY := Lib.hid (mulK_yes (a := a) hbit)
        have HX := Lib.hid (i64_xor_nat r (a * 2 ^ k) (by omega) k2)
        rw [hr] at HY k1 ⊢
        have HS := Lib.hid (shl_nat k2)
        clear hbit hr k2
        go_wp2
        rw [HS.out, HX.out]
        go_round
        case rel => exact ⟨k + 1, by omega, by go_num, by rw [HY.out]⟩
        case measure => simp [intOf]; omega
      · have h0 : b / 2 ^ k % 2 = 0 := by omega
        rw [h0] at hA
        have HY := Lib.hid (mulK_no (a := a) hbit)
        rw [hr] at HY k1 ⊢
        clear hbit hr h0 k2
        go_wp2
        go_round
        case rel => exact ⟨k + 1, by omega, by go_num, by rw [HY.out]⟩
        case measure => simp [intOf]; omega
    · have hke : k = L := by omega
      subst hke
      rw [HM.out]
      go_wp2
      go_ret
      exact ⟨rfl, rfl⟩
theorem l02Mul_any (a b : Nat) (w : World) (ha : a < 4294967296) (hb : b < 4294967296) :
    Calls Try.prog 38 #[.int .i64 a, .int .i64 b] w fun e w' => e = .returned (.int .i64 (mulp a b : Nat)) ∧ w = w' := by
  have lb : bl b ≤ 32 := bl_le (by simpa using hb)
  have HM := Lib.hid (mulp_eq (a := a) lb)
  go_enter Try.func38, Try.ntmps38
  go_wp2
  go_loop [5, 6] (fun o i => ∃ k : Nat, k ≤ 32 ∧ i = .int .i64 k ∧ o = .int .i64 (mulK a b k : Nat)) (fun _ i => 32 - (intOf i).toNat)
  case atStart => exact ⟨0, Nat.zero_le _, rfl, rfl⟩
  case round =>
    obtain ⟨k, hk, rfl, rfl⟩ := hrel
    by_cases hlt : k < 32
    · have hA := and_one_nat (k := k) (show b < 9223372036854775808 by omega)
      have k1 := mulK_lt63 ha (b := b) (k := k) (by omega)
      have k2 := mul_step_lt ha hlt
      obtain ⟨r, hr⟩ : ∃ r, mulK a b k = r := ⟨_, rfl⟩
      by_cases hbit : b / 2 ^ k % 2 = 1
      · rw [hbit] at hA
        have HY := Lib.hid (mulK_yes (a := a) hbit)
        have HX := Lib.hid (i64_xor_nat r (a * 2 ^ k) (by omega) k2)
        rw [hr] at HY k1 ⊢
        have HS := Lib.hid (shl_nat k2)
        clear hbit hr k2
        go_wp2
        rw [HS.out, HX.out]
        go_round
        case rel => exact ⟨k + 1, by omega, by go_num, by rw [HY.out]⟩
        case measure => simp [intOf]; omega
      · have h0 : b / 2 ^ k % 2 = 0 := by omega
        rw [h0] at hA
        have HY := Lib.hid (mulK_no (a := a) hbit)
        rw [hr] at HY k1 ⊢
        clear hbit hr h0 k2
        go_wp2
        go_round
        case rel => exact ⟨k + 1, by omega, by go_num, by rw [HY.out]⟩
        case measure => simp [intOf]; omega
    · have hke : k = 32 := by omega
      subst hke
      rw [HM.out]
      go_wp2
      go_ret
      exact ⟨rfl, rfl⟩
end Go.Proofs.Ytkepnjdomlfpdaa
