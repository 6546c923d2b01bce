/-
  Contracts of FactorsOf, both forms. No condition beyond int64's bounds.
-/
import Derived.Test.YtkepnjdomlfpdaaC19
import Derived.Test.YtkepnjdomlfpdaaM7
import Derived.Test.YtkepnjdomlfpdaaLst
namespace Go.Proofs.Ytkepnjdomlfpdaa
open Go.RowKit
set_option linter.unusedVariables false

theorem fc_len (f p : Nat) : (fc f p).length ≤ p := by
  by_cases h1 : p ≤ 1
  · rw [fc_end h1]; simp
  · by_cases h2 : bl p + 1 < 2 * bl f
    · rw [fc_last h1 h2]; simp; omega
    · by_cases h3 : f < 2
      · rw [fc, dif_neg h1, dif_neg h2, dif_pos h3]; simp
      · by_cases h4 : (dv f 0 p).2 = 0
        · rw [fc_yes h1 h2 (by omega) h4]
          have k1 := fc_len f (dv f 0 p).1
          have k2 := dv_q_less (f := f) (p := p) (by omega) (by omega)
          simp; omega
        · rw [fc_no h1 h2 (by omega) h4]; exact fc_len (f + 1) p
termination_by (p, 2 ^ bl p - f)
decreasing_by
  · exact Prod.Lex.left _ _ (dv_q_less (by omega) (by omega))
  · exact Prod.Lex.right _ (fc_less h1 h2)
def foL (p : Int) : List Int := if inR p 1 131071 = true then (fc 2 p.toNat).map Int.ofNat else []
theorem foL_no {p : Int} (h : inR p 1 131071 = false) : foL p = [] := by simp [foL, h]
theorem foL_yes {p : Nat} (h : inR (p : Int) 1 131071 = true) : foL p = (fc 2 p).map Int.ofNat := by simp only [foL, h, if_true, Int.toNat_natCast]
theorem foL_len (p : Int) : (foL p).length < 1000000000000 := by
  unfold foL
  split
  · next h =>
    have := inR_true h
    have := fc_len 2 p.toNat
    rw [List.length_map]; omega
  · simp
theorem FactorsOf_any (p : Int) (w : World) : Calls Try.prog 27 #[.int .i64 p] w (RetL (foL p) (inR p 1 131071) w) := by
  cases h1 : inR p 1 131071 with
  | false =>
    rw [foL_no h1]
    go_enter Try.func27, Try.ntmps27
    go_wp2_with (go_at_call 55; refine (inRange_of h1 _).mono ?_; rintro e w' ⟨rfl, rfl⟩)
    go_ret2
    exact ⟨none, 0, rfl, HasL.nil _ _ _ _, bw_refl _⟩
  | true =>
    obtain ⟨p0, p1⟩ := inR_true h1
    obtain ⟨P, rfl⟩ := Int.eq_ofNat_of_zero_le (show 0 ≤ p by omega)
    obtain ⟨T, hT⟩ : ∃ T, Hid (foL P = T) := ⟨_, Lib.hid rfl⟩
    have HT := Lib.hid (show (fc 2 P).map Int.ofNat = T by rw [← hT.out, foL_yes h1])
    have HTL := Lib.hid (show T.length < 1000000 by have := fc_len 2 P; rw [← HT.out, List.length_map]; omega)
    rw [hT.out]
    go_enter Try.func27, Try.ntmps27
    go_wp2_with (go_at_call 55; refine (inRange_of h1 _).mono ?_; rintro e w' ⟨rfl, rfl⟩)
    clear h1
    go_loopw [0, 4, 5] (fun x v y wr => ∃ (q f : Nat) (xs : List Int), 1 ≤ q ∧ q ≤ 131071 ∧ 2 ≤ f ∧ f ≤ 131072 ∧ x = .int .i64 q ∧ y = .int .i64 f ∧ Hid (OwnI .i64 w.heap.size 2 w wr v xs) ∧ Hid (xs ++ (fc f q).map Int.ofNat = T)) (fun x _ y _ => (intOf x).toNat * 262144 + (262144 - (intOf y).toNat))
    case atStart => exact ⟨P, 2, [], by omega, by omega, by omega, by omega, rfl, rfl, Lib.hid (OwnI.made (bw_refl _) (Nat.le_refl _)), Lib.hid (by rw [← HT.out]; rfl)⟩
    case round =>
      obtain ⟨q, f, xs, q1, q2, f1, f2, rfl, rfl, ho, hx⟩ := hrel
      have HL := Lib.hid (show xs.length < 1000000000000 by have h := congrArg List.length hx.out; rw [List.length_append] at h; have := HTL.out; omega)
      have HF := Lib.hid (show f < 9223372036854775808 by omega)
      have HQ := Lib.hid (show q < 9223372036854775808 by omega)
      have HF0 := Lib.hid (show 0 < f by omega)
      have HQ0 := Lib.hid (show 0 < q by omega)
      by_cases hq : q = 1
      · subst hq
        have HX := Lib.hid (show xs = T by rw [← hx.out, fc_end (Nat.le_refl 1)]; simp)
        obtain ⟨a', c', hv, hh⟩ := ho.out.hasL
        have HB := Lib.hid ho.out.below
        have HH := Lib.hid hh
        have HV := Lib.hid hv
        clear hh hv
        go_wp2
        go_ret2
        exact ⟨a', c', by rw [← HX.out, ← HV.out]; rfl, by rw [← HX.out]; exact HH.out, HB.out⟩
      · have bf : bl f ≤ 18 := bl_le (by show f < 262144; omega)
        have bq : bl q ≤ 17 := bl_le (by show q < 131072; omega)
        have bf2 : 2 ≤ bl f := bl_gt (k := 1) (by simpa using f1)
        have lf := bl_lt f
        have q3 : (1 : Int) < (q : Int) := by omega
        by_cases hb : bl q + 1 < 2 * bl f
        · have HX := Lib.hid (show xs ++ [(q : Int)] = T by rw [← hx.out, fc_last (by omega) hb]; rfl)
          have ES := Lib.hid (dv_self HQ0.out)
          obtain ⟨bF, hbF⟩ : ∃ b, bl f = b := ⟨_, rfl⟩
          obtain ⟨bQ, hbQ⟩ : ∃ b, bl q = b := ⟨_, rfl⟩
          rw [hbF] at hb bf bf2
          rw [hbQ] at hb bq
          have EF := Lib.hid hbF
          have EQ := Lib.hid hbQ
          clear hbF hbQ lf
          go_wp2_with (first | (go_at_call 46; (first | with_reducible refine (degree_any f _ HF.out).mono ?_ | with_reducible refine (degree_any q _ HQ.out).mono ?_); (first | rw [EF.out] | rw [EQ.out]); rintro e w' ⟨rfl, rfl⟩) | (at_builtin; refine wpApp tI rfl _ _ rfl rfl ho.out rfl (by decide) HL.out ?_; intro v' w3 hown1))
          obtain ⟨a', c', hv, hh⟩ := hown1.hasL
          have HB := Lib.hid hown1.below
          have HH := Lib.hid hh
          have HV := Lib.hid hv
          go_ret2
          exact ⟨a', c', by rw [← HX.out, ← HV.out]; rfl, by rw [← HX.out]; exact HH.out, HB.out⟩
        · have f3 : f < 512 := by
            have h : 2 ^ bl f ≤ 2 ^ 9 := Nat.pow_le_pow_right (by decide) (by omega)
            have h9 : (2 : Nat) ^ 9 = 512 := by decide
            omega
          obtain ⟨D, hD⟩ : ∃ D, dv f 0 q = D := ⟨_, rfl⟩
          have ED := Lib.hid hD
          have dq := dv_q_less (f := f) (p := q) f1 (by omega)
          have dp := dv_q_pos (f := f) (p := q) (by omega) (by omega)
          by_cases hr : (dv f 0 q).2 = 0
          · have HX := Lib.hid (show (xs ++ [(f : Int)]) ++ (fc f (dv f 0 q).1).map Int.ofNat = T by rw [← hx.out, fc_yes (by omega) hb f1 hr]; simp)
            have d1 := dp hr
            rw [hD] at hr dq d1 HX
            obtain ⟨A, B⟩ := D
            simp only at hr dq d1 HX
            subst hr
            obtain ⟨bF, hbF⟩ : ∃ b, bl f = b := ⟨_, rfl⟩
            obtain ⟨bQ, hbQ⟩ : ∃ b, bl q = b := ⟨_, rfl⟩
            rw [hbF] at hb bf bf2
            rw [hbQ] at hb bq
            have EF := Lib.hid hbF
            have EQ := Lib.hid hbQ
            clear hbF hbQ hD lf dp
            go_wp2_with (first | (go_at_call 46; (first | with_reducible refine (degree_any f _ HF.out).mono ?_ | with_reducible refine (degree_any q _ HQ.out).mono ?_); (first | rw [EF.out] | rw [EQ.out]); rintro e w' ⟨rfl, rfl⟩) | (go_at_call 48; refine (dividePolys_any q f _ HQ.out HF0.out HF.out).mono ?_; rw [ED.out]; rintro e w' ⟨rfl, rfl⟩) | (at_builtin; refine wpApp tI rfl _ _ rfl rfl ho.out rfl (by decide) HL.out ?_; intro v' w3 hown1))
            go_roundw
            case rel => exact ⟨A, f, xs ++ [(f : Int)], by omega, by omega, by omega, by omega, rfl, rfl, Lib.hid hown1, HX⟩
            case measure => simp [intOf]; omega
          · have HX := Lib.hid (show xs ++ (fc (f + 1) q).map Int.ofNat = T by rw [← hx.out, fc_no (by omega) hb f1 hr])
            rw [hD] at hr
            obtain ⟨A, B⟩ := D
            simp only at hr
            have hr2 : ¬ (B : Int) = 0 := by omega
            obtain ⟨bF, hbF⟩ : ∃ b, bl f = b := ⟨_, rfl⟩
            obtain ⟨bQ, hbQ⟩ : ∃ b, bl q = b := ⟨_, rfl⟩
            rw [hbF] at hb bf bf2
            rw [hbQ] at hb bq
            have EF := Lib.hid hbF
            have EQ := Lib.hid hbQ
            clear hbF hbQ hD lf dp dq hr
            go_wp2_with (first | (go_at_call 46; (first | with_reducible refine (degree_any f _ HF.out).mono ?_ | with_reducible refine (degree_any q _ HQ.out).mono ?_); (first | rw [EF.out] | rw [EQ.out]); rintro e w' ⟨rfl, rfl⟩) | (go_at_call 48; refine (dividePolys_any q f _ HQ.out HF0.out HF.out).mono ?_; rw [ED.out]; rintro e w' ⟨rfl, rfl⟩))
            go_roundw
            case rel => exact ⟨q, f + 1, xs, by omega, by omega, by omega, by omega, rfl, by go_num, ho, HX⟩
            case measure => simp [intOf]; omega
theorem sFactorsOf_any (p : Int) (w : World) : Calls Try.prog 26 #[.int .i64 p] w (RetL (foL p) (inR p 1 131071) w) := by
  cases h1 : inR p 1 131071 with
  | false =>
    rw [foL_no h1]
    go_enter Try.func26, Try.ntmps26
    go_wp2_with (go_at_call 54; refine (l00In_of h1 _).mono ?_; rintro e w' ⟨rfl, rfl⟩)
    go_ret2
    exact ⟨none, 0, rfl, HasL.nil _ _ _ _, bw_refl _⟩
  | true =>
    obtain ⟨p0, p1⟩ := inR_true h1
    obtain ⟨P, rfl⟩ := Int.eq_ofNat_of_zero_le (show 0 ≤ p by omega)
    obtain ⟨T, hT⟩ : ∃ T, Hid (foL P = T) := ⟨_, Lib.hid rfl⟩
    have HT := Lib.hid (show (fc 2 P).map Int.ofNat = T by rw [← hT.out, foL_yes h1])
    have HTL := Lib.hid (show T.length < 1000000 by have := fc_len 2 P; rw [← HT.out, List.length_map]; omega)
    rw [hT.out]
    go_enter Try.func26, Try.ntmps26
    go_wp2_with (go_at_call 54; refine (l00In_of h1 _).mono ?_; rintro e w' ⟨rfl, rfl⟩)
    clear h1
    go_loopw [0, 4, 5] (fun x v y wr => ∃ (q f : Nat) (xs : List Int), 1 ≤ q ∧ q ≤ 131071 ∧ 2 ≤ f ∧ f ≤ 131072 ∧ x = .int .i64 q ∧ y = .int .i64 f ∧ Hid (OwnI .i64 w.heap.size 2 w wr v xs) ∧ Hid (xs ++ (fc f q).map Int.ofNat = T)) (fun x _ y _ => (intOf x).toNat * 262144 + (262144 - (intOf y).toNat))
    case atStart => exact ⟨P, 2, [], by omega, by omega, by omega, by omega, rfl, rfl, Lib.hid (OwnI.made (bw_refl _) (Nat.le_refl _)), Lib.hid (by rw [← HT.out]; rfl)⟩
    case round =>
      obtain ⟨q, f, xs, q1, q2, f1, f2, rfl, rfl, ho, hx⟩ := hrel
      have HL := Lib.hid (show xs.length < 1000000000000 by have h := congrArg List.length hx.out; rw [List.length_append] at h; have := HTL.out; omega)
      have HF := Lib.hid (show f < 9223372036854775808 by omega)
      have HQ := Lib.hid (show q < 9223372036854775808 by omega)
      have HF0 := Lib.hid (show 0 < f by omega)
      have HQ0 := Lib.hid (show 0 < q by omega)
      by_cases hq : q = 1
      · subst hq
        have HX := Lib.hid (show xs = T by rw [← hx.out, fc_end (Nat.le_refl 1)]; simp)
        obtain ⟨a', c', hv, hh⟩ := ho.out.hasL
        have HB := Lib.hid ho.out.below
        have HH := Lib.hid hh
        have HV := Lib.hid hv
        clear hh hv
        go_wp2
        go_ret2
        exact ⟨a', c', by rw [← HX.out, ← HV.out]; rfl, by rw [← HX.out]; exact HH.out, HB.out⟩
      · have bf : bl f ≤ 18 := bl_le (by show f < 262144; omega)
        have bq : bl q ≤ 17 := bl_le (by show q < 131072; omega)
        have bf2 : 2 ≤ bl f := bl_gt (k := 1) (by simpa using f1)
        have lf := bl_lt f
        have q3 : (1 : Int) < (q : Int) := by omega
        by_cases hb : bl q + 1 < 2 * bl f
        · have HX := Lib.hid (show xs ++ [(q : Int)] = T by rw [← hx.out, fc_last (by omega) hb]; rfl)
          have ES := Lib.hid (dv_self HQ0.out)
          obtain ⟨bF, hbF⟩ : ∃ b, bl f = b := ⟨_, rfl⟩
          obtain ⟨bQ, hbQ⟩ : ∃ b, bl q = b := ⟨_, rfl⟩
          rw [hbF] at hb bf bf2
          rw [hbQ] at hb bq
          have EF := Lib.hid hbF
          have EQ := Lib.hid hbQ
          clear hbF hbQ lf
          go_wp2_with (first | (go_at_call 43; (first | with_reducible refine (l02Degree_any f _ HF.out).mono ?_ | with_reducible refine (l02Degree_any q _ HQ.out).mono ?_); (first | rw [EF.out] | rw [EQ.out]); rintro e w' ⟨rfl, rfl⟩) | (go_at_call 47; refine (l02Div_any q q _ HQ.out HQ0.out HQ.out).mono ?_; rw [ES.out]; rintro e w' ⟨rfl, rfl⟩) | (at_builtin; refine wpApp tI rfl _ _ rfl rfl ho.out rfl (by decide) HL.out ?_; intro v' w3 hown1))
          go_roundw
          case rel => exact ⟨1, q, xs ++ [(q : Int)], by omega, by omega, by omega, by omega, by simp, rfl, Lib.hid hown1, Lib.hid (by rw [fc_end (Nat.le_refl 1)]; simpa using HX.out)⟩
          case measure => simp [intOf]; omega
        · have f3 : f < 512 := by
            have h : 2 ^ bl f ≤ 2 ^ 9 := Nat.pow_le_pow_right (by decide) (by omega)
            have h9 : (2 : Nat) ^ 9 = 512 := by decide
            omega
          obtain ⟨D, hD⟩ : ∃ D, dv f 0 q = D := ⟨_, rfl⟩
          have ED := Lib.hid hD
          have dq := dv_q_less (f := f) (p := q) f1 (by omega)
          have dp := dv_q_pos (f := f) (p := q) (by omega) (by omega)
          by_cases hr : (dv f 0 q).2 = 0
          · have HX := Lib.hid (show (xs ++ [(f : Int)]) ++ (fc f (dv f 0 q).1).map Int.ofNat = T by rw [← hx.out, fc_yes (by omega) hb f1 hr]; simp)
            have d1 := dp hr
            rw [hD] at hr dq d1 HX
            obtain ⟨A, B⟩ := D
            simp only at hr dq d1 HX
            subst hr
            obtain ⟨bF, hbF⟩ : ∃ b, bl f = b := ⟨_, rfl⟩
            obtain ⟨bQ, hbQ⟩ : ∃ b, bl q = b := ⟨_, rfl⟩
            rw [hbF] at hb bf bf2
            rw [hbQ] at hb bq
            have EF := Lib.hid hbF
            have EQ := Lib.hid hbQ
            clear hbF hbQ hD lf dp
            go_wp2_with (first | (go_at_call 43; (first | with_reducible refine (l02Degree_any f _ HF.out).mono ?_ | with_reducible refine (l02Degree_any q _ HQ.out).mono ?_); (first | rw [EF.out] | rw [EQ.out]); rintro e w' ⟨rfl, rfl⟩) | (go_at_call 47; refine (l02Div_any q f _ HQ.out HF0.out HF.out).mono ?_; rw [ED.out]; rintro e w' ⟨rfl, rfl⟩) | (at_builtin; refine wpApp tI rfl _ _ rfl rfl ho.out rfl (by decide) HL.out ?_; intro v' w3 hown1))
            go_roundw
            case rel => exact ⟨A, f, xs ++ [(f : Int)], by omega, by omega, by omega, by omega, rfl, rfl, Lib.hid hown1, HX⟩
            case measure => simp [intOf]; omega
          · have HX := Lib.hid (show xs ++ (fc (f + 1) q).map Int.ofNat = T by rw [← hx.out, fc_no (by omega) hb f1 hr])
            rw [hD] at hr
            obtain ⟨A, B⟩ := D
            simp only at hr
            have hr2 : ¬ (B : Int) = 0 := by omega
            obtain ⟨bF, hbF⟩ : ∃ b, bl f = b := ⟨_, rfl⟩
            obtain ⟨bQ, hbQ⟩ : ∃ b, bl q = b := ⟨_, rfl⟩
            rw [hbF] at hb bf bf2
            rw [hbQ] at hb bq
            have EF := Lib.hid hbF
            have EQ := Lib.hid hbQ
            clear hbF hbQ hD lf dp dq hr
            go_wp2_with (first | (go_at_call 43; (first | with_reducible refine (l02Degree_any f _ HF.out).mono ?_ | with_reducible refine (l02Degree_any q _ HQ.out).mono ?_); (first | rw [EF.out] | rw [EQ.out]); rintro e w' ⟨rfl, rfl⟩) | (go_at_call 47; refine (l02Div_any q f _ HQ.out HF0.out HF.out).mono ?_; rw [ED.out]; rintro e w' ⟨rfl, rfl⟩))
            go_roundw
            case rel => exact ⟨q, f + 1, xs, by omega, by omega, by omega, by omega, rfl, by go_num, ho, HX⟩
            case measure => simp [intOf]; omega
end Go.Proofs.Ytkepnjdomlfpdaa
