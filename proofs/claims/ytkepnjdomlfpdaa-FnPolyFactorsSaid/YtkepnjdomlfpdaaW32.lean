/-
  Walk of the law FnPowers: it returns true for every argument. No condition.
-/
import Derived.Test.YtkepnjdomlfpdaaR8
import Derived.Test.YtkepnjdomlfpdaaM18
import Derived.Test.YtkepnjdomlfpdaaC20
import Derived.Test.YtkepnjdomlfpdaaC22
import Derived.Test.YtkepnjdomlfpdaaC23
namespace Go.Proofs.Ytkepnjdomlfpdaa
open Go.RowKit
set_option linter.unusedVariables false

theorem plB_yes {p : Nat} (h : p < 4294967296) : plB (p : Int) = true := inR_mk (by omega) (by omega)
theorem PowerOfX_of {n : Int} {N P v : Nat} (w : World) (hn : n = N) (n1 : N ≤ 1000000000000000000) (p0 : 0 < P) (p1 : P < 4294967296) (hv : Hid (md P (2 ^ N) = v)) :
    Calls Try.prog 32 #[.int .i64 n, .int .i64 P] w fun e w' => e = .returned (.tuple #[.int .i64 (v : Nat), .bool true]) ∧ Below w.heap.size w w' := by
  subst hn
  have h := PowerOfX_any (N : Int) (P : Int) w
  have hb : pxB (N : Int) (P : Int) = true := by
    unfold pxB
    rw [inR_mk (by omega) (by omega), plB_yes p1]
    simp; omega
  have hvv : pxV (N : Int) (P : Int) = (v : Int) := by
    unfold pxV
    rw [if_pos hb]
    simp only [Int.toNat_natCast]
    rw [pw_x p0, hv.out]
  rwa [hb, hvv] at h
theorem MulPolys_of {a b v : Nat} (w : World) (ha : a < 4294967296) (hb : b < 4294967296) (hv : Hid (mulp a b = v)) (h1 : v < 4294967296) :
    Calls Try.prog 14 #[.int .i64 a, .int .i64 b] w fun e w' => e = .returned (.tuple #[.int .i64 (v : Nat), .bool true]) ∧ Below w.heap.size w w' := by
  have h := MulPolys_any (a : Int) (b : Int) w
  have hh : mulB (a : Int) (b : Int) = true := by
    unfold mulB
    simp only [Int.toNat_natCast]
    rw [plB_yes ha, plB_yes hb]
    have := hv.out
    simp; omega
  have hvv : mulV (a : Int) (b : Int) = (v : Int) := by
    unfold mulV
    rw [if_pos hh]
    simp only [Int.toNat_natCast]
    rw [hv.out]
  rwa [hh, hvv] at h
theorem DividePolys_of {a b q r : Nat} (w : World) (ha : a < 4294967296) (hb : b < 4294967296) (b0 : 0 < b) (hq : Hid (qt b a = q)) (hr : Hid (md b a = r)) :
    Calls Try.prog 18 #[.int .i64 a, .int .i64 b] w fun e w' => e = .returned (.tuple #[.int .i64 (q : Nat), .int .i64 (r : Nat), .bool true]) ∧ Below w.heap.size w w' := by
  have h := DividePolys_any (a : Int) (b : Int) w
  have hh : divB (a : Int) (b : Int) = true := by
    unfold divB
    rw [plB_yes ha, plB_yes hb]
    simp; omega
  have hvv : divV (a : Int) (b : Int) = ((q : Int), (r : Int)) := by
    unfold divV
    rw [if_pos hh]
    simp only [Int.toNat_natCast]
    rw [← hq.out, ← hr.out]; rfl
  rwa [hh, hvv] at h
set_option maxRecDepth 100000 in
theorem FnPowers_walk (a0 : Option Addr) (len0 cap0 : Nat) (z0 : List Int) (a1 : Option Addr) (len1 cap1 : Nat) (z1 : List Int) (w : World) (w0 : IsRow .u8 w a0 len0 cap0 z0) (w1 : IsRow .u8 w a1 len1 cap1 z1) :
    Calls Try.prog 11 #[.slice a0 len0 cap0, .slice a1 len1 cap1] w fun e w' => e = .returned (.bool true) ∧ Below w.heap.size w w' := by
  obtain ⟨g0, _, _⟩ := w0.len_le
  obtain ⟨g1, _, _⟩ := w1.len_le
  cases hl : lon8 len0 len1 with
  | true =>
    clear w0 w1
    go_enter Try.func11, Try.ntmps11
    go_wp2_with (go_at_call 33; refine (r8Long_of g0 g1 hl).mono ?_; rintro e w' ⟨rfl, rfl⟩)
    go_ret
    exact ⟨rfl, bw_refl _⟩
  | false =>
    have HW0 := Lib.hid w0
    have HW1 := Lib.hid w1
    clear w0 w1
    go_enter Try.func11, Try.ntmps11
    go_wp2_with fail
    refine (r8Long_of g0 g1 hl).mono ?_
    rintro e w' ⟨rfl, rfl⟩
    go_wp2_with fail
    refine (R8Number_any a0 len0 cap0 z0 500 _ HW0.out (by omega) (by omega)).mono ?_
    rintro e w2 ⟨x, rfl, x0, x1, hb2⟩
    have B2 := Lib.hid hb2
    have HM := Lib.hid (HW1.out.below hb2)
    clear hb2
    obtain ⟨X, rfl⟩ := Int.eq_ofNat_of_zero_le x0
    obtain ⟨P, hP⟩ : ∃ P, P = 2 * X + 3 := ⟨_, rfl⟩
    have hP2 : (2 : Int) * (X : Int) + 3 = (P : Int) := by omega
    have P0 : 3 ≤ P ∧ P ≤ 1001 := by omega
    have PO : P % 2 = 1 := by omega
    have PO2 := Lib.hid PO
    obtain ⟨n1, H1⟩ : ∃ v, Hid (r8 z1 len1 0 256 = v) := ⟨_, Lib.hid rfl⟩
    obtain ⟨n2, H2⟩ : ∃ v, Hid (r8 z1 len1 1 256 = v) := ⟨_, Lib.hid rfl⟩
    obtain ⟨n3, H3⟩ : ∃ v, Hid (r8 z1 len1 2 256 = v) := ⟨_, Lib.hid rfl⟩
    obtain ⟨n4, H4⟩ : ∃ v, Hid (r8 z1 len1 3 256 = v) := ⟨_, Lib.hid rfl⟩
    have b1 : 0 ≤ n1 ∧ n1 < 256 := H1.out ▸ r8_lt z1 len1 0 (n := 256) (by omega)
    have b2 : 0 ≤ n2 ∧ n2 < 256 := H2.out ▸ r8_lt z1 len1 1 (n := 256) (by omega)
    have b3 : 0 ≤ n3 ∧ n3 < 256 := H3.out ▸ r8_lt z1 len1 2 (n := 256) (by omega)
    have b4 : 0 ≤ n4 ∧ n4 < 256 := H4.out ▸ r8_lt z1 len1 3 (n := 256) (by omega)
    clear hP PO
    go_wp2_with (go_at_call 35; (first | (with_reducible refine (r8At_of HM.out (by omega) (by omega) (by omega) H1).mono ?_) | (with_reducible refine (r8At_of HM.out (by omega) (by omega) (by omega) H2).mono ?_) | (with_reducible refine (r8At_of HM.out (by omega) (by omega) (by omega) H3).mono ?_) | (with_reducible refine (r8At_of HM.out (by omega) (by omega) (by omega) H4).mono ?_)); rintro e w' ⟨rfl, rfl⟩)
    obtain ⟨N, hN⟩ := Int.eq_ofNat_of_zero_le (show 0 ≤ n1 * 1000003 + n2 by omega)
    obtain ⟨M, hM⟩ := Int.eq_ofNat_of_zero_le (show 0 ≤ n3 * 999983 + n4 by omega)
    have hNM : n1 * 1000003 + n2 + (n3 * 999983 + n4) = ((N + M : Nat) : Int) := by omega
    have NB : N ≤ 1000000000000000000 ∧ M ≤ 1000000000000000000 ∧ N + M ≤ 1000000000000000000 := by omega
    have hsm : ∀ a, md P a < P := fun a => dv_rest_lt 0 (by omega)
    obtain ⟨A, HA⟩ : ∃ A, Hid (md P (2 ^ N) = A) := ⟨_, Lib.hid rfl⟩
    obtain ⟨Bv, HBv⟩ : ∃ A, Hid (md P (2 ^ M) = A) := ⟨_, Lib.hid rfl⟩
    obtain ⟨C, HC⟩ : ∃ A, Hid (md P (2 ^ (N + M)) = A) := ⟨_, Lib.hid rfl⟩
    obtain ⟨V, HV⟩ : ∃ V, Hid (mulp A Bv = V) := ⟨_, Lib.hid rfl⟩
    have lA : A < P := HA.out ▸ hsm _
    have lB : Bv < P := HBv.out ▸ hsm _
    have lV : V < 4294967296 := by
      rw [← HV.out]
      have h1 := mulK_lt (a := A) (b := Bv) (n := 10) (by omega) (bl Bv)
      have h2 : bl Bv ≤ 10 := bl_le (by omega)
      have h3 : 2 ^ (10 + bl Bv) ≤ 2 ^ 20 := Nat.pow_le_pow_right (by decide) (by omega)
      unfold mulp
      omega
    have HR : Hid (md P V = C) := Lib.hid (by rw [← HV.out, ← HA.out, ← HBv.out, ← HC.out]; exact md_pow_add (by omega) N M)
    obtain ⟨Q, HQ⟩ : ∃ A, Hid (qt P V = A) := ⟨_, Lib.hid rfl⟩
    obtain ⟨O, HO⟩ : ∃ A, Hid (ordx P = A) := ⟨_, Lib.hid rfl⟩
    have hord := ordx_spec (p := P) (by omega) PO2.out
    rw [HO.out] at hord
    have HORD := Lib.hid hord
    have o1 : 1 ≤ O ∧ O ≤ 1001 := by omega
    have hoo : ooB (P : Int) = true := by
      unfold ooB
      rw [inR_mk (by omega) (by omega)]
      have := PO2.out
      simp; omega
    have HOO : Hid (ooV (P : Int) = (O : Int)) := Lib.hid (by unfold ooV; rw [if_pos hoo]; simp only [Int.toNat_natCast]; rw [HO.out])
    have HOB := Lib.hid hoo
    have HD : Hid (md P (2 ^ O) = 1) := Lib.hid (by rw [← xo_x (by omega)]; exact HORD.out.2.2.1)
    clear hord hoo hsm
    go_wp2_with fail
    refine (PowerOfX_of (N := N) w2 (by omega) NB.1 (by omega) (by omega) HA).mono ?_
    rintro e w3 ⟨rfl, hb3⟩
    have B3 := Lib.hid (bw_call B2.out hb3)
    have HM3 := Lib.hid (HM.out.below hb3)
    clear hb3
    go_wp2_with fail
    refine (PowerOfX_of (N := M) w3 (by omega) NB.2.1 (by omega) (by omega) HBv).mono ?_
    rintro e w4 ⟨rfl, hb4⟩
    have B4 := Lib.hid (bw_call B3.out hb4)
    have HM4 := Lib.hid (HM3.out.below hb4)
    clear hb4
    go_wp2_with fail
    refine (PowerOfX_of (N := N + M) w4 (by omega) NB.2.2 (by omega) (by omega) HC).mono ?_
    rintro e w5 ⟨rfl, hb5⟩
    have B5 := Lib.hid (bw_call B4.out hb5)
    have HM5 := Lib.hid (HM4.out.below hb5)
    clear hb5
    go_wp2_with fail
    refine (MulPolys_of w5 (by omega) (by omega) HV lV).mono ?_
    rintro e w6 ⟨rfl, hb6⟩
    have B6 := Lib.hid (bw_call B5.out hb6)
    have HM6 := Lib.hid (HM5.out.below hb6)
    clear hb6
    go_wp2_with fail
    refine (DividePolys_of w6 lV (by omega) (by omega) HQ HR).mono ?_
    rintro e w7 ⟨rfl, hb7⟩
    have B7 := Lib.hid (bw_call B6.out hb7)
    have HM7 := Lib.hid (HM6.out.below hb7)
    clear hb7
    go_wp2_with fail
    refine (OrderOfX_any (P : Int) w7).mono ?_
    rw [HOO.out, HOB.out]
    rintro e w8 ⟨rfl, rfl⟩
    go_wp2_with fail
    refine (PowerOfX_of (N := O) w7 rfl (by omega) (by omega) (by omega) HD).mono ?_
    rintro e w9 ⟨rfl, hb9⟩
    have B9 := Lib.hid (bw_call B7.out hb9)
    have HM9 := Lib.hid (HM7.out.below hb9)
    clear hb9
    obtain ⟨n5, H5⟩ : ∃ v, Hid (r8 z1 len1 4 O = v) := ⟨_, Lib.hid rfl⟩
    have b5 : 0 ≤ n5 ∧ n5 < O := H5.out ▸ r8_lt z1 len1 4 (n := O) (by omega)
    obtain ⟨K, hK⟩ := Int.eq_ofNat_of_zero_le (show 0 ≤ 1 + n5 by omega)
    obtain ⟨E, HE⟩ : ∃ A, Hid (md P (2 ^ K) = A) := ⟨_, Lib.hid rfl⟩
    have HEK : Hid (K = O ∨ E ≠ 1) := Lib.hid (by
      by_cases c : K = O
      · exact .inl c
      · have h := HORD.out.2.2.2 K (by omega) (by omega)
        rw [xo_x (by omega), HE.out] at h
        exact .inr h)
    have kb : 1 ≤ K ∧ K ≤ O := by omega
    go_wp2_with fail
    refine (r8At_of HM9.out (by omega) (by omega) (by omega) H5).mono ?_
    rintro e w10 ⟨rfl, rfl⟩
    go_wp2_with fail
    refine (PowerOfX_of (N := K) w9 (by omega) (by omega) (by omega) (by omega) HE).mono ?_
    rintro e w11 ⟨rfl, hb11⟩
    have B11 := Lib.hid (bw_call B9.out hb11)
    clear hb11
    by_cases hko : K = O
    · subst hko
      go_wp2
      go_ret
      exact ⟨by simp, B11.out⟩
    · have hE : ¬ (E : Int) = 1 := by have := HEK.out; omega
      have hE2 : ((E : Int) == 1) = false := beq_eq_false_iff_ne.2 hE
      have hko2 : ((K : Int) == (O : Int)) = false := beq_eq_false_iff_ne.2 (by omega)
      go_wp2
      go_ret
      exact ⟨by simp; exact hE, B11.out⟩
end Go.Proofs.Ytkepnjdomlfpdaa
