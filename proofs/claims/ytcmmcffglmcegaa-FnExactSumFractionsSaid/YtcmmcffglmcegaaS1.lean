/-
  Contracts of the reference's numbers of two words. Conditions stand in each contract.
-/
import Derived.Test.YtcmmcffglmcegaaC9
import Derived.Test.YtcmmcffglmcegaaBits
import Derived.Test.YtcmmcffglmcegaaN6
import Derived.Deep.RegionHeld3
namespace Go.Proofs.Ytcmmcffglmcegaa
open Go.RowKit
set_option linter.unusedVariables false

def wd (v : Int) : Value := .agg #[.int .u64 (v / 18446744073709551616), .int .u64 (v % 18446744073709551616)]
theorem mod_letters {a : Int} (h0 : 0 ≤ a) (h1 : a < 42535295865117307932921825928971026432) : ∃ h l : Int, a / 18446744073709551616 = h ∧ a % 18446744073709551616 = l ∧ (0 ≤ h ∧ h < 2305843009213693952) ∧ (0 ≤ l ∧ l < 18446744073709551616) ∧ a = h * 18446744073709551616 + l := ⟨_, _, rfl, rfl, by omega, by omega, by omega⟩
theorem wd_of {v h l : Int} (e : v = h * 18446744073709551616 + l) (l0 : 0 ≤ l) (l1 : l < 18446744073709551616) : wd v = .agg #[.int .u64 h, .int .u64 l] := by
  have e1 : v / 18446744073709551616 = h := by omega
  have e2 : v % 18446744073709551616 = l := by omega
  unfold wd
  rw [e1, e2]
theorem times_words {a b xh xl yh yl P Q R S : Int} (ha : a = xh * 4294967296 + xl) (hb : b = yh * 4294967296 + yl) (hP : P = xl * yl) (hQ : Q = xh * yl) (hR : R = xl * yh) (hS : S = xh * yh) : a * b = S * 18446744073709551616 + (Q + R) * 4294967296 + P := by
  rw [ha, hb, hP, hQ, hR, hS]; grind
theorem word_bd {x y m n : Int} (x0 : 0 ≤ x) (x1 : x ≤ m) (y0 : 0 ≤ y) (y1 : y ≤ n) : 0 ≤ x * y ∧ x * y ≤ m * n := by
  refine ⟨Int.mul_nonneg x0 y0, ?_⟩
  exact Int.le_trans (Int.mul_le_mul_of_nonneg_right x1 y0) (Int.mul_le_mul_of_nonneg_left y1 (by omega))
set_option maxRecDepth 100000 in
theorem l01Times_any (a b : Int) (w : World) (a0 : 0 ≤ a) (a1 : a ≤ 1000000000000000000) (b0 : 0 ≤ b) (b1 : b ≤ 1000000000000000000) :
    Calls Try.prog 46 #[.int .i64 a, .int .i64 b] w fun r w' => r = .returned (wd (a * b)) ∧ Below w.heap.size w w' := by
  obtain ⟨xl, hxl⟩ : ∃ x, a % 4294967296 = x := ⟨_, rfl⟩
  obtain ⟨xh, hxh⟩ : ∃ x, a / 4294967296 = x := ⟨_, rfl⟩
  obtain ⟨yl, hyl⟩ : ∃ x, b % 4294967296 = x := ⟨_, rfl⟩
  obtain ⟨yh, hyh⟩ : ∃ x, b / 4294967296 = x := ⟨_, rfl⟩
  obtain ⟨P, hP⟩ : ∃ P, P = xl * yl := ⟨_, rfl⟩
  obtain ⟨Q, hQ⟩ : ∃ P, P = xh * yl := ⟨_, rfl⟩
  obtain ⟨R, hR⟩ : ∃ P, P = xl * yh := ⟨_, rfl⟩
  obtain ⟨S, hS⟩ : ∃ P, P = xh * yh := ⟨_, rfl⟩
  have bP := word_bd (x := xl) (y := yl) (m := 4294967295) (n := 4294967295) (by omega) (by omega) (by omega) (by omega)
  have bQ := word_bd (x := xh) (y := yl) (m := 232830643) (n := 4294967295) (by omega) (by omega) (by omega) (by omega)
  have bR := word_bd (x := xl) (y := yh) (m := 4294967295) (n := 232830643) (by omega) (by omega) (by omega) (by omega)
  have bS := word_bd (x := xh) (y := yh) (m := 232830643) (n := 232830643) (by omega) (by omega) (by omega) (by omega)
  rw [← hP] at bP
  rw [← hQ] at bQ
  rw [← hR] at bR
  rw [← hS] at bS
  have HV := Lib.hid (times_words (a := a) (b := b) (by omega) (by omega) hP hQ hR hS)
  have w1 : IntKind.u64.wrap (xl * yl) = P := by rw [← hP, IntKind.wrap_u64]; omega
  have w2 : IntKind.u64.wrap (xh * yl) = Q := by rw [← hQ, IntKind.wrap_u64]; omega
  have w3 : IntKind.u64.wrap (xl * yh) = R := by rw [← hR, IntKind.wrap_u64]; omega
  have w4 : IntKind.u64.wrap (xh * yh) = S := by rw [← hS, IntKind.wrap_u64]; omega
  have u1 : IntKind.u64.wrap a = a := by rw [IntKind.wrap_u64]; omega
  have u2 : IntKind.u64.wrap b = b := by rw [IntKind.wrap_u64]; omega
  obtain ⟨M, hM⟩ : ∃ M, M = P / 4294967296 + Q % 4294967296 + R % 4294967296 := ⟨_, rfl⟩
  have w5 : IntKind.u64.wrap (P / 4294967296 + Q % 4294967296) = P / 4294967296 + Q % 4294967296 := by rw [IntKind.wrap_u64]; omega
  have w6 : IntKind.u64.wrap (P / 4294967296 + Q % 4294967296 + R % 4294967296) = M := by rw [← hM, IntKind.wrap_u64]; omega
  have w7 : IntKind.u64.wrap (S + Q / 4294967296) = S + Q / 4294967296 := by rw [IntKind.wrap_u64]; omega
  have w8 : IntKind.u64.wrap (S + Q / 4294967296 + R / 4294967296) = S + Q / 4294967296 + R / 4294967296 := by rw [IntKind.wrap_u64]; omega
  have w9 : IntKind.u64.wrap (S + Q / 4294967296 + R / 4294967296 + M / 4294967296) = S + Q / 4294967296 + R / 4294967296 + M / 4294967296 := by rw [IntKind.wrap_u64]; omega
  have wA : IntKind.u64.wrap (M * 4294967296) = (M % 4294967296) * 4294967296 := by rw [IntKind.wrap_u64]; omega
  have wB : bits .or .u64 ((M % 4294967296) * 4294967296) (P % 4294967296) = (M % 4294967296) * 4294967296 + P % 4294967296 := u64_or_low (by omega) (by omega) (by omega) (by omega)
  have hz : ((4294967296 : Int) == 0) = false := rfl
  have t1 : P.tdiv 4294967296 = P / 4294967296 := Int.tdiv_eq_ediv_of_nonneg bP.1
  have t2 : Q.tdiv 4294967296 = Q / 4294967296 := Int.tdiv_eq_ediv_of_nonneg bQ.1
  have t3 : R.tdiv 4294967296 = R / 4294967296 := Int.tdiv_eq_ediv_of_nonneg bR.1
  have t4 : P.tmod 4294967296 = P % 4294967296 := Int.tmod_eq_emod_of_nonneg bP.1
  have t5 : Q.tmod 4294967296 = Q % 4294967296 := Int.tmod_eq_emod_of_nonneg bQ.1
  have t6 : R.tmod 4294967296 = R % 4294967296 := Int.tmod_eq_emod_of_nonneg bR.1
  have t7 : M.tdiv 4294967296 = M / 4294967296 := Int.tdiv_eq_ediv_of_nonneg (by omega)
  have y1 : IntKind.u64.wrap (P / 4294967296) = P / 4294967296 := by rw [IntKind.wrap_u64]; omega
  have y2 : IntKind.u64.wrap (Q / 4294967296) = Q / 4294967296 := by rw [IntKind.wrap_u64]; omega
  have y3 : IntKind.u64.wrap (R / 4294967296) = R / 4294967296 := by rw [IntKind.wrap_u64]; omega
  have y4 : IntKind.u64.wrap (M / 4294967296) = M / 4294967296 := by rw [IntKind.wrap_u64]; omega
  have HW : Hid (wd (a * b) = .agg #[.int .u64 (S + Q / 4294967296 + R / 4294967296 + M / 4294967296), .int .u64 ((M % 4294967296) * 4294967296 + P % 4294967296)]) := Lib.hid (wd_of (by have := HV.out; omega) (by omega) (by omega))
  rw [HW.out]
  clear hP hQ hR hS bP bQ bR bS hM
  go_enter Try.func46, Try.ntmps46
  go_wp2
  iterate 4 (go_quiet (fail); go_wp2)
  go_region
  all_goals go_wp2
  all_goals refine bodyPost_ret (v := .agg #[.int .u64 (S + Q / 4294967296 + R / 4294967296 + M / 4294967296), .int .u64 ((M % 4294967296) * 4294967296 + P % 4294967296)]) (by simp [results, Try.results46, go_sem]) rfl ⟨rfl, ?_⟩
  all_goals (repeat (first | exact bw_refl _ | refine bw_alloc ?_ _ | refine bw_drew ?_ | refine bw_drewN ?_ _ | (refine bw_setCell ?_ (by simp <;> omega) _)))
theorem l01Less_any (a b : Int) (w : World) (a0 : 0 ≤ a) (a1 : a < 42535295865117307932921825928971026432) (b0 : 0 ≤ b) (b1 : b < 42535295865117307932921825928971026432) :
    Calls Try.prog 50 #[wd a, wd b] w fun r w' => r = .returned (.bool (decide (a < b))) ∧ Below w.heap.size w w' := by
  unfold wd
  obtain ⟨ah, al, e1, e2, ba, bb, ea⟩ := mod_letters a0 a1
  obtain ⟨bh, bl, f1, f2, ca, cb, eb⟩ := mod_letters b0 b1
  rw [e1, e2, f1, f2]
  clear e1 e2 f1 f2
  by_cases h1 : ah < bh
  · have e : Hid (decide (a < b) = true) := Lib.hid (decide_eq_true (by omega))
    rw [e.out]
    clear ea eb
    go_enter Try.func50, Try.ntmps50
    go_wp2
    go_ret
    exact ⟨rfl, bw_alloc (bw_alloc (bw_refl _) _) _⟩
  · by_cases h2 : ah = bh
    · subst h2
      have e : Hid (decide (a < b) = decide (al < bl)) := Lib.hid (decide_eq_decide.2 (by omega))
      rw [e.out]
      clear ea eb h1
      go_enter Try.func50, Try.ntmps50
      go_wp2
      go_ret
      exact ⟨rfl, bw_alloc (bw_alloc (bw_refl _) _) _⟩
    · have e : Hid (decide (a < b) = false) := Lib.hid (decide_eq_false (by omega))
      rw [e.out]
      clear ea eb
      have h3 : (ah == bh) = false := beq_eq_false_iff_ne.2 h2
      go_enter Try.func50, Try.ntmps50
      go_wp2
      go_ret
      exact ⟨rfl, bw_alloc (bw_alloc (bw_refl _) _) _⟩
theorem l01Plus_any (a b : Int) (w : World) (a0 : 0 ≤ a) (a1 : a < 42535295865117307932921825928971026432) (b0 : 0 ≤ b) (b1 : b < 42535295865117307932921825928971026432) :
    Calls Try.prog 57 #[wd a, wd b] w fun r w' => r = .returned (wd (a + b)) ∧ Below w.heap.size w w' := by
  obtain ⟨ah, al, e1, e2, ba, bb, ea⟩ := mod_letters a0 a1
  obtain ⟨bh, bl, f1, f2, ca, cb, eb⟩ := mod_letters b0 b1
  rw [wd_of ea bb.1 bb.2, wd_of eb cb.1 cb.2]
  have w1 : IntKind.u64.wrap (ah + bh) = ah + bh := by rw [IntKind.wrap_u64]; omega
  have w3 : IntKind.u64.wrap (ah + bh + 1) = ah + bh + 1 := by rw [IntKind.wrap_u64]; omega
  by_cases h : al + bl < 18446744073709551616
  · have w2 : IntKind.u64.wrap (al + bl) = al + bl := by rw [IntKind.wrap_u64]; omega
    have h2 : ¬ al + bl < al := by omega
    have e : Hid (wd (a + b) = .agg #[.int .u64 (ah + bh), .int .u64 (al + bl)]) := Lib.hid (wd_of (by omega) (by omega) (by omega))
    rw [e.out]
    clear e1 e2 f1 f2 ea eb
    go_enter Try.func57, Try.ntmps57
    go_wp2
    refine bodyPost_ret (v := .agg #[.int .u64 (ah + bh), .int .u64 (al + bl)]) (by simp [results, Try.results57, go_sem]) rfl ⟨rfl, ?_⟩
    (repeat (first | exact bw_refl _ | refine bw_alloc ?_ _ | refine bw_drew ?_ | refine bw_drewN ?_ _ | (refine bw_setCell ?_ (by simp <;> omega) _)))
  · have w2 : IntKind.u64.wrap (al + bl) = al + bl - 18446744073709551616 := by rw [IntKind.wrap_u64]; omega
    have h2 : al + bl - 18446744073709551616 < al := by omega
    have e : Hid (wd (a + b) = .agg #[.int .u64 (ah + bh + 1), .int .u64 (al + bl - 18446744073709551616)]) := Lib.hid (wd_of (by omega) (by omega) (by omega))
    rw [e.out]
    clear e1 e2 f1 f2 ea eb
    go_enter Try.func57, Try.ntmps57
    go_wp2
    refine bodyPost_ret (v := .agg #[.int .u64 (ah + bh + 1), .int .u64 (al + bl - 18446744073709551616)]) (by simp [results, Try.results57, go_sem]) rfl ⟨rfl, ?_⟩
    (repeat (first | exact bw_refl _ | refine bw_alloc ?_ _ | refine bw_drew ?_ | refine bw_drewN ?_ _ | (refine bw_setCell ?_ (by simp <;> omega) _)))
theorem l01Minus_any (a b : Int) (w : World) (a0 : 0 ≤ a) (a1 : a < 42535295865117307932921825928971026432) (b0 : 0 ≤ b) (b1 : b ≤ a) :
    Calls Try.prog 58 #[wd a, wd b] w fun r w' => r = .returned (wd (a - b)) ∧ Below w.heap.size w w' := by
  obtain ⟨ah, al, e1, e2, ba, bb, ea⟩ := mod_letters a0 a1
  obtain ⟨bh, bl, f1, f2, ca, cb, eb⟩ := mod_letters (a := b) b0 (by omega)
  rw [wd_of ea bb.1 bb.2, wd_of eb cb.1 cb.2]
  have w1 : IntKind.u64.wrap (ah - bh) = ah - bh := by rw [IntKind.wrap_u64]; omega
  by_cases h : al < bl
  · have w2 : IntKind.u64.wrap (al - bl) = al - bl + 18446744073709551616 := by rw [IntKind.wrap_u64]; omega
    have w3 : IntKind.u64.wrap (ah - bh - 1) = ah - bh - 1 := by rw [IntKind.wrap_u64]; omega
    have e : Hid (wd (a - b) = .agg #[.int .u64 (ah - bh - 1), .int .u64 (al - bl + 18446744073709551616)]) := Lib.hid (wd_of (by omega) (by omega) (by omega))
    rw [e.out]
    clear e1 e2 f1 f2 ea eb
    go_enter Try.func58, Try.ntmps58
    go_wp2
    refine bodyPost_ret (v := .agg #[.int .u64 (ah - bh - 1), .int .u64 (al - bl + 18446744073709551616)]) (by simp [results, Try.results58, go_sem]) rfl ⟨rfl, ?_⟩
    (repeat (first | exact bw_refl _ | refine bw_alloc ?_ _ | refine bw_drew ?_ | refine bw_drewN ?_ _ | (refine bw_setCell ?_ (by simp <;> omega) _)))
  · have w2 : IntKind.u64.wrap (al - bl) = al - bl := by rw [IntKind.wrap_u64]; omega
    have e : Hid (wd (a - b) = .agg #[.int .u64 (ah - bh), .int .u64 (al - bl)]) := Lib.hid (wd_of (by omega) (by omega) (by omega))
    rw [e.out]
    clear e1 e2 f1 f2 ea eb
    go_enter Try.func58, Try.ntmps58
    go_wp2
    refine bodyPost_ret (v := .agg #[.int .u64 (ah - bh), .int .u64 (al - bl)]) (by simp [results, Try.results58, go_sem]) rfl ⟨rfl, ?_⟩
    (repeat (first | exact bw_refl _ | refine bw_alloc ?_ _ | refine bw_drew ?_ | refine bw_drewN ?_ _ | (refine bw_setCell ?_ (by simp <;> omega) _)))
theorem l01Small_any (a : Int) (w : World) (a0 : 0 ≤ a) (a1 : a < 42535295865117307932921825928971026432) :
    Calls Try.prog 45 #[wd a] w fun r w' => r = .returned (.tuple #[.int .i64 (if a ≤ 1000000000000000000 then a else 0), .bool (decide (a ≤ 1000000000000000000))]) ∧ Below w.heap.size w w' := by
  obtain ⟨ah, al, e1, e2, ba, bb, ea⟩ := mod_letters a0 a1
  rw [wd_of ea bb.1 bb.2]
  clear e1 e2
  by_cases h : a ≤ 1000000000000000000
  · have e1 : al = a := by omega
    have e2 : ah = 0 := by omega
    subst e1
    subst e2
    have u1 : IntKind.i64.wrap al = al := by rw [IntKind.wrap_i64]; omega
    rw [if_pos h, decide_eq_true h]
    clear ea
    go_enter Try.func45, Try.ntmps45
    go_wp2
    go_ret2
    exact ⟨rfl, bw_alloc (bw_refl _) _⟩
  · rw [if_neg h, decide_eq_false h]
    by_cases h1 : 0 < ah
    · clear ea
      go_enter Try.func45, Try.ntmps45
      go_wp2
      go_ret2
      exact ⟨rfl, bw_alloc (bw_refl _) _⟩
    · have h2 : ah = 0 := by omega
      subst h2
      have h3 : 1000000000000000000 < al := by omega
      clear ea h
      go_enter Try.func45, Try.ntmps45
      go_wp2
      go_ret2
      exact ⟨rfl, bw_alloc (bw_refl _) _⟩
end Go.Proofs.Ytcmmcffglmcegaa
