/-
  Contracts of PowerOfX and FactorsOf, both forms. No condition beyond int64's bounds.
-/
import Derived.Test.YtkepnjdomlfpdaaC20
import Derived.Test.YtkepnjdomlfpdaaM7
namespace Go.Proofs.Ytkepnjdomlfpdaa
open Go.RowKit
set_option linter.unusedVariables false

def pxB (n p : Int) : Bool := inR n 0 1000000000000000000 && (plB p && !(p == 0))
def pxV (n p : Int) : Int := if pxB n p = true then ((pw p.toNat n.toNat (dv p.toNat 0 1).2 (dv p.toNat 0 2).2 : Nat) : Int) else 0
theorem pxV_no {n p : Int} (h : pxB n p = false) : pxV n p = 0 := by simp [pxV, h]
theorem PowerOfX_any (n p : Int) (w : World) :
    Calls Try.prog 32 #[.int .i64 n, .int .i64 p] w fun e w' => e = .returned (.tuple #[.int .i64 (pxV n p), .bool (pxB n p)]) ∧ Below w.heap.size w w' := by
  cases h1 : inR n 0 1000000000000000000 with
  | false =>
    have e : pxB n p = false := by simp [pxB, h1]
    rw [pxV_no e, e]
    clear e
    go_enter Try.func32, Try.ntmps32
    go_wp2_with (go_at_call 55; refine (inRange_of h1 _).mono ?_; rintro e w' ⟨rfl, rfl⟩)
    go_ret2
    exact ⟨rfl, bw_refl _⟩
  | true =>
    cases h2 : plB p with
    | false =>
      have e : pxB n p = false := by simp [pxB, h2]
      rw [pxV_no e, e]
      clear e
      go_enter Try.func32, Try.ntmps32
      go_wp2_with (first | (go_at_call 55; refine (inRange_of h1 _).mono ?_; rintro e w' ⟨rfl, rfl⟩) | (go_at_call 39; refine (arePolys_one _ h2).mono ?_; rintro e w1 ⟨rfl, hb⟩))
      go_ret2
      exact ⟨rfl, hb⟩
    | true =>
      by_cases h0 : p = 0
      · subst h0
        have e : pxB n 0 = false := by simp [pxB]
        rw [pxV_no e, e]
        clear e
        go_enter Try.func32, Try.ntmps32
        go_wp2_with (first | (go_at_call 55; refine (inRange_of h1 _).mono ?_; rintro e w' ⟨rfl, rfl⟩) | (go_at_call 39; refine (arePolys_one _ h2).mono ?_; rintro e w1 ⟨rfl, hb⟩))
        go_ret2
        exact ⟨rfl, hb⟩
      · have e : pxB n p = true := by simp [pxB, h1, h2, h0]
        have e2 : pxV n p = ((pw p.toNat n.toNat (dv p.toNat 0 1).2 (dv p.toNat 0 2).2 : Nat) : Int) := by simp [pxV, e]
        rw [e2, e]
        clear e e2
        obtain ⟨n0, n1⟩ := inR_true h1
        obtain ⟨p, rfl, hp⟩ := plB_nat h2
        rw [Int.toNat_natCast]
        obtain ⟨R, HR⟩ : ∃ R, Hid (pw p n.toNat (dv p 0 1).2 (dv p 0 2).2 = R) := ⟨_, Lib.hid rfl⟩
        rw [HR.out]
        have HP := Lib.hid (show 0 < p by omega)
        have HL := Lib.hid hp
        have HQ := Lib.hid (show p < 9223372036854775808 by omega)
        clear hp
        go_enter Try.func32, Try.ntmps32
        go_wp2_with (first | (go_at_call 55; refine (inRange_of h1 _).mono ?_; rintro e w' ⟨rfl, rfl⟩) | (go_at_call 39; refine (arePolys_one _ h2).mono ?_; rintro e w1 ⟨rfl, hb⟩))
        have HB := Lib.hid hb
        clear hb h1 h2
        refine (dividePolys_any 1 p _ (by decide) HP.out HQ.out).mono ?_
        rintro e w' ⟨rfl, rfl⟩
        go_wp2_with fail
        refine (dividePolys_any 2 p _ (by decide) HP.out HQ.out).mono ?_
        rintro e w' ⟨rfl, rfl⟩
        go_wp2
        go_loop [0, 7, 9] (fun x y z => ∃ (r : Int) (o s : Nat), 0 ≤ r ∧ r ≤ 1000000000000000000 ∧ x = .int .i64 r ∧ y = .int .i64 o ∧ z = .int .i64 s ∧ Hid (o < p) ∧ Hid (s < p) ∧ Hid (pw p r.toNat o s = R)) (fun x _ _ => (intOf x).toNat)
        case atStart => exact ⟨n, _, _, n0, n1, rfl, rfl, rfl, Lib.hid (dv_rest_lt 0 HP.out), Lib.hid (dv_rest_lt 0 HP.out), HR⟩
        case round =>
          obtain ⟨r, o, s, r0, r1, rfl, rfl, rfl, ho, hs, hr⟩ := hrel
          have HO := Lib.hid (show o < 4294967296 by have := ho.out; have := HL.out; omega)
          have HS := Lib.hid (show s < 4294967296 by have := hs.out; have := HL.out; omega)
          have HOS := Lib.hid (mulp_lt63 HO.out HS.out)
          have HSS := Lib.hid (mulp_lt63 HS.out HS.out)
          have HP2 := Lib.hid (show p < 9223372036854775808 by have := HL.out; omega)
          by_cases hz : r = 0
          · subst hz
            have HE := Lib.hid (show o = R by rw [← hr.out]; exact (pw_end p o s).symm)
            go_wp2
            go_ret2
            exact ⟨by rw [← HE.out]; rfl, HB.out⟩
          · have hpos : 0 < r := by omega
            by_cases hodd : r % 2 = 1
            · have HG := Lib.hid (show pw p (r / 2).toNat (dv p 0 (mulp o s)).2 (dv p 0 (mulp s s)).2 = R by rw [← hr.out, pw_odd (n := r.toNat) (by omega)]; congr 1; omega)
              go_wp2_with (first | (go_at_call 40; (first | with_reducible refine (mulPolys_any o s _ HO.out HS.out).mono ?_ | with_reducible refine (mulPolys_any s s _ HS.out HS.out).mono ?_); rintro e w' ⟨rfl, rfl⟩) | (go_at_call 48; (first | with_reducible refine (dividePolys_any (mulp o s) p _ HOS.out HP.out HP2.out).mono ?_ | with_reducible refine (dividePolys_any (mulp s s) p _ HSS.out HP.out HP2.out).mono ?_); rintro e w' ⟨rfl, rfl⟩))
              go_round
              case rel => exact ⟨r / 2, _, _, by omega, by omega, by go_num, rfl, rfl, Lib.hid (dv_rest_lt 0 HP.out), Lib.hid (dv_rest_lt 0 HP.out), HG⟩
              case measure => simp [intOf]; omega
            · have HG := Lib.hid (show pw p (r / 2).toNat o (dv p 0 (mulp s s)).2 = R by rw [← hr.out, pw_even (n := r.toNat) (by omega) (by omega)]; congr 1; omega)
              go_wp2_with (first | (go_at_call 40; (first | with_reducible refine (mulPolys_any o s _ HO.out HS.out).mono ?_ | with_reducible refine (mulPolys_any s s _ HS.out HS.out).mono ?_); rintro e w' ⟨rfl, rfl⟩) | (go_at_call 48; (first | with_reducible refine (dividePolys_any (mulp o s) p _ HOS.out HP.out HP2.out).mono ?_ | with_reducible refine (dividePolys_any (mulp s s) p _ HSS.out HP.out HP2.out).mono ?_); rintro e w' ⟨rfl, rfl⟩))
              go_round
              case rel => exact ⟨r / 2, o, _, by omega, by omega, by go_num, rfl, rfl, ho, Lib.hid (dv_rest_lt 0 HP.out), HG⟩
              case measure => simp [intOf]; omega
theorem l02Power_any (n : Int) (p : Nat) (w : World) (n0 : 0 ≤ n) (n1 : n ≤ 1000000000000000000) (hp0 : 0 < p) (hp : p < 4294967296) :
    Calls Try.prog 56 #[.int .i64 n, .int .i64 p] w fun e w' => e = .returned (.int .i64 (pw p n.toNat (dv p 0 1).2 (dv p 0 2).2 : Nat)) ∧ Below w.heap.size w w' := by
  obtain ⟨R, HR⟩ : ∃ R, Hid (pw p n.toNat (dv p 0 1).2 (dv p 0 2).2 = R) := ⟨_, Lib.hid rfl⟩
  rw [HR.out]
  have HP := Lib.hid hp0
  have HL := Lib.hid hp
  have HQ := Lib.hid (show p < 9223372036854775808 by omega)
  have HB := Lib.hid (bw_refl w)
  clear hp hp0
  go_enter Try.func56, Try.ntmps56
  go_wp2_with fail
  refine (l02Div_any 1 p _ (by decide) HP.out HQ.out).mono ?_
  rintro e w' ⟨rfl, rfl⟩
  go_wp2_with fail
  refine (l02Div_any 2 p _ (by decide) HP.out HQ.out).mono ?_
  rintro e w' ⟨rfl, rfl⟩
  go_wp2
  go_loop [0, 6, 8] (fun x y z => ∃ (r : Int) (o s : Nat), 0 ≤ r ∧ r ≤ 1000000000000000000 ∧ x = .int .i64 r ∧ y = .int .i64 o ∧ z = .int .i64 s ∧ Hid (o < p) ∧ Hid (s < p) ∧ Hid (pw p r.toNat o s = R)) (fun x _ _ => (intOf x).toNat)
  case atStart => exact ⟨n, _, _, n0, n1, rfl, rfl, rfl, Lib.hid (dv_rest_lt 0 HP.out), Lib.hid (dv_rest_lt 0 HP.out), HR⟩
  case round =>
    obtain ⟨r, o, s, r0, r1, rfl, rfl, rfl, ho, hs, hr⟩ := hrel
    have HO := Lib.hid (show o < 4294967296 by have := ho.out; have := HL.out; omega)
    have HS := Lib.hid (show s < 4294967296 by have := hs.out; have := HL.out; omega)
    have HOS := Lib.hid (mulp_lt63 HO.out HS.out)
    have HSS := Lib.hid (mulp_lt63 HS.out HS.out)
    have HP2 := Lib.hid (show p < 9223372036854775808 by have := HL.out; omega)
    by_cases hz : r = 0
    · subst hz
      have HE := Lib.hid (show o = R by rw [← hr.out]; exact (pw_end p o s).symm)
      go_wp2
      go_ret
      exact ⟨by rw [← HE.out]; rfl, HB.out⟩
    · have hpos : 0 < r := by omega
      by_cases hodd : r % 2 = 1
      · have HG := Lib.hid (show pw p (r / 2).toNat (dv p 0 (mulp o s)).2 (dv p 0 (mulp s s)).2 = R by rw [← hr.out, pw_odd (n := r.toNat) (by omega)]; congr 1; omega)
        go_wp2_with (first | (go_at_call 38; (first | with_reducible refine (l02Mul_any o s _ HO.out HS.out).mono ?_ | with_reducible refine (l02Mul_any s s _ HS.out HS.out).mono ?_); rintro e w' ⟨rfl, rfl⟩) | (go_at_call 47; (first | with_reducible refine (l02Div_any (mulp o s) p _ HOS.out HP.out HP2.out).mono ?_ | with_reducible refine (l02Div_any (mulp s s) p _ HSS.out HP.out HP2.out).mono ?_); rintro e w' ⟨rfl, rfl⟩))
        go_round
        case rel => exact ⟨r / 2, _, _, by omega, by omega, by go_num, rfl, rfl, Lib.hid (dv_rest_lt 0 HP.out), Lib.hid (dv_rest_lt 0 HP.out), HG⟩
        case measure => simp [intOf]; omega
      · have HG := Lib.hid (show pw p (r / 2).toNat o (dv p 0 (mulp s s)).2 = R by rw [← hr.out, pw_even (n := r.toNat) (by omega) (by omega)]; congr 1; omega)
        go_wp2_with (first | (go_at_call 38; (first | with_reducible refine (l02Mul_any o s _ HO.out HS.out).mono ?_ | with_reducible refine (l02Mul_any s s _ HS.out HS.out).mono ?_); rintro e w' ⟨rfl, rfl⟩) | (go_at_call 47; (first | with_reducible refine (l02Div_any (mulp o s) p _ HOS.out HP.out HP2.out).mono ?_ | with_reducible refine (l02Div_any (mulp s s) p _ HSS.out HP.out HP2.out).mono ?_); rintro e w' ⟨rfl, rfl⟩))
        go_round
        case rel => exact ⟨r / 2, o, _, by omega, by omega, by go_num, rfl, rfl, ho, Lib.hid (dv_rest_lt 0 HP.out), HG⟩
        case measure => simp [intOf]; omega
theorem sPowerOfX_any (n p : Int) (w : World) :
    Calls Try.prog 31 #[.int .i64 n, .int .i64 p] w fun e w' => e = .returned (.tuple #[.int .i64 (pxV n p), .bool (pxB n p)]) ∧ Below w.heap.size w w' := by
  cases h1 : inR n 0 1000000000000000000 with
  | false =>
    have e : pxB n p = false := by simp [pxB, h1]
    rw [pxV_no e, e]
    clear e
    go_enter Try.func31, Try.ntmps31
    go_wp2_with (go_at_call 54; refine (l00In_of h1 _).mono ?_; rintro e w' ⟨rfl, rfl⟩)
    go_ret2
    exact ⟨rfl, bw_refl _⟩
  | true =>
    cases h2 : plB p with
    | false =>
      have e : pxB n p = false := by simp [pxB, h2]
      rw [pxV_no e, e]
      clear e
      go_enter Try.func31, Try.ntmps31
      go_wp2_with (first | (go_at_call 54; refine (l00In_of h1 _).mono ?_; rintro e w' ⟨rfl, rfl⟩) | (go_at_call 37; refine (l02Poly_of h2 _).mono ?_; rintro e w' ⟨rfl, rfl⟩))
      go_ret2
      exact ⟨rfl, bw_refl _⟩
    | true =>
      by_cases h0 : p = 0
      · subst h0
        have e : pxB n 0 = false := by simp [pxB]
        rw [pxV_no e, e]
        clear e
        go_enter Try.func31, Try.ntmps31
        go_wp2_with (first | (go_at_call 54; refine (l00In_of h1 _).mono ?_; rintro e w' ⟨rfl, rfl⟩) | (go_at_call 37; refine (l02Poly_of h2 _).mono ?_; rintro e w' ⟨rfl, rfl⟩))
        go_ret2
        exact ⟨rfl, bw_refl _⟩
      · have e : pxB n p = true := by simp [pxB, h1, h2, h0]
        have e2 : pxV n p = ((pw p.toNat n.toNat (dv p.toNat 0 1).2 (dv p.toNat 0 2).2 : Nat) : Int) := by simp [pxV, e]
        rw [e2, e]
        clear e e2
        obtain ⟨n0, n1⟩ := inR_true h1
        obtain ⟨p, rfl, hp⟩ := plB_nat h2
        rw [Int.toNat_natCast]
        have HP := Lib.hid (show 0 < p by omega)
        have HL := Lib.hid hp
        clear hp
        go_enter Try.func31, Try.ntmps31
        go_wp2_with (first | (go_at_call 54; refine (l00In_of h1 _).mono ?_; rintro e w' ⟨rfl, rfl⟩) | (go_at_call 37; refine (l02Poly_of h2 _).mono ?_; rintro e w' ⟨rfl, rfl⟩) | (go_at_call 56; refine (l02Power_any n p _ n0 n1 HP.out HL.out).mono ?_; rintro e w' ⟨rfl, hb⟩))
        go_ret2
        exact ⟨rfl, hb⟩
end Go.Proofs.Ytkepnjdomlfpdaa
