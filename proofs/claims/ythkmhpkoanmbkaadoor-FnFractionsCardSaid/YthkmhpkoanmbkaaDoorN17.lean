/-
  Contracts of the program's sums, differences, products, quotients and comparisons of fractions. No condition beyond int64's bounds.
-/
import Derived.Test.YthkmhpkoanmbkaaDoorN16
namespace Go.Proofs.YthkmhpkoanmbkaaDoor
open Go.RowKit
set_option linter.unusedVariables false

theorem sg_abs (n : Int) : sg (decide (n < 0)) (absI n) = n := by
  unfold sg absI
  by_cases h : n < 0
  · rw [if_pos (decide_eq_true h)]; omega
  · rw [if_neg (by simp; omega)]; omega
theorem abs_lt_bp {n : Int} (h : -1000000000000000000 ≤ n ∧ n ≤ 1000000000000000000) : absI n < bp 90 := by
  have h1 := bp_mono (show 2 ≤ 90 by omega)
  have h2 : bp 2 = 18446744073709551616 := by decide
  unfold absI; omega
theorem den_lt_bp {n : Int} (h : 1 ≤ n ∧ n ≤ 1000000000000000000) : n < bp 90 := by
  have h1 := bp_mono (show 2 ≤ 90 by omega)
  have h2 : bp 2 = 18446744073709551616 := by decide
  omega
theorem ofOk_times {n d m e : Int} (h1 : vfB n d = true) (h2 : vfB m e = true) : OfOk 23 n d m e (n * m) (d * e) := by
  obtain ⟨v1, v2, _⟩ := vfB_true h1
  obtain ⟨u1, u2, _⟩ := vfB_true h2
  intro w s1 s2 a1 b1 a2 b2 ca1 cb1 ca2 cb2 x1 y1 x2 y2 hs1 hs2 r1 r2
  refine (rtimes_any s1 s2 a1 b1 a2 b2 ca1 cb1 ca2 cb2 x1 y1 x2 y2 _ _ _ _ w r1 r2 ⟨abs_lt_bp v2, den_lt_bp v1⟩ ⟨abs_lt_bp u2, den_lt_bp u1⟩).mono fun e' w' h => ?_
  refine RetR.q (neg := s1 != s2) h (Int.mul_nonneg (absI_nonneg _) (absI_nonneg _)) ?_
  have e1 := sg_abs n
  have e2 := sg_abs m
  rw [← hs1] at e1
  rw [← hs2] at e2
  conv => lhs; rw [← e1, ← e2]
  generalize absI n = A
  generalize absI m = B
  cases s1 <;> cases s2 <;> simp [sg] <;> grind
theorem ofOk_plus {n d m e : Int} (h1 : vfB n d = true) (h2 : vfB m e = true) : OfOk 21 n d m e (n * e + m * d) (d * e) := by
  obtain ⟨v1, v2, _⟩ := vfB_true h1
  obtain ⟨u1, u2, _⟩ := vfB_true h2
  intro w s1 s2 a1 b1 a2 b2 ca1 cb1 ca2 cb2 x1 y1 x2 y2 hs1 hs2 r1 r2
  have h := rplus_any s1 s2 a1 b1 a2 b2 ca1 cb1 ca2 cb2 x1 y1 x2 y2 _ _ _ _ w r1 r2 ⟨abs_lt_bp v2, den_lt_bp v1⟩ ⟨abs_lt_bp u2, den_lt_bp u1⟩
  rwa [hs1, hs2, sg_abs, sg_abs, ← hs1, ← hs2] at h
theorem ofOk_minus {n d m e : Int} (h1 : vfB n d = true) (h2 : vfB m e = true) : OfOk 22 n d m e (n * e - m * d) (d * e) := by
  obtain ⟨v1, v2, _⟩ := vfB_true h1
  obtain ⟨u1, u2, _⟩ := vfB_true h2
  intro w s1 s2 a1 b1 a2 b2 ca1 cb1 ca2 cb2 x1 y1 x2 y2 hs1 hs2 r1 r2
  have h := rminus_any s1 s2 a1 b1 a2 b2 ca1 cb1 ca2 cb2 x1 y1 x2 y2 _ _ _ _ w r1 r2 ⟨abs_lt_bp v2, den_lt_bp v1⟩ ⟨abs_lt_bp u2, den_lt_bp u1⟩
  rwa [hs1, hs2, sg_abs, sg_abs, ← hs1, ← hs2] at h
def dvN (n m e : Int) : Int := if m < 0 then -(n * e) else n * e
theorem ofOk_over {n d m e : Int} (hm : m ≠ 0) (h1 : vfB n d = true) (h2 : vfB m e = true) : OfOk 33 n d m e (dvN n m e) (d * absI m) := by
  obtain ⟨v1, v2, _⟩ := vfB_true h1
  obtain ⟨u1, u2, _⟩ := vfB_true h2
  intro w s1 s2 a1 b1 a2 b2 ca1 cb1 ca2 cb2 x1 y1 x2 y2 hs1 hs2 r1 r2
  refine (rover_any s1 s2 a1 b1 a2 b2 ca1 cb1 ca2 cb2 x1 y1 x2 y2 _ _ _ _ w r1 ⟨r2.den, r2.num, by unfold absI; omega⟩ ⟨abs_lt_bp v2, den_lt_bp v1⟩ ⟨abs_lt_bp u2, den_lt_bp u1⟩).mono fun e' w' h => ?_
  refine RetR.q (neg := s1 != s2) h (Int.mul_nonneg (absI_nonneg _) (by omega)) ?_
  have e1 := sg_abs n
  rw [← hs1] at e1
  unfold dvN
  conv => lhs; rw [← e1]
  generalize absI n = A
  by_cases hneg : m < 0
  · rw [decide_eq_true hneg] at hs2
    subst hs2
    rw [if_pos hneg]
    cases s1 <;> simp [sg] <;> grind
  · rw [decide_eq_false hneg] at hs2
    subst hs2
    rw [if_neg hneg]
    cases s1 <;> simp [sg] <;> grind
set_option maxRecDepth 100000 in
theorem MulFractions_any (n d m e : Int) (w : World) :
    Calls Tryd.prog 8 #[.agg #[.int .i64 n, .int .i64 d], .agg #[.int .i64 m, .int .i64 e]] w fun r w' => r = .returned (.tuple #[.agg #[.int .i64 (cmN n d m e (n * m) (d * e)), .int .i64 (cmD n d m e (n * m) (d * e))], .bool (cmB n d m e (n * m) (d * e))]) ∧ Below w.heap.size w w' := by
  have hC := fun W => combined_times n d m e (n * m) (d * e) W ofOk_times
  obtain ⟨p, hp⟩ : ∃ p, Hid (cmN n d m e (n * m) (d * e) = p) := ⟨_, Lib.hid rfl⟩
  obtain ⟨q, hq⟩ : ∃ p, Hid (cmD n d m e (n * m) (d * e) = p) := ⟨_, Lib.hid rfl⟩
  obtain ⟨b, hb⟩ : ∃ p, Hid (cmB n d m e (n * m) (d * e) = p) := ⟨_, Lib.hid rfl⟩
  rw [hp.out, hq.out, hb.out]
  have HC := Lib.hid hC
  clear hC
  go_enter Tryd.func8, Tryd.ntmps8
  go_wp2_with fail
  refine (HC.out _).mono ?_
  rw [hp.out, hq.out, hb.out]
  rintro r w1 ⟨rfl, hb1⟩
  have E2 : Blk w1 (w.heap.size + 1 + 1) #[.int .i64 0, .int .i64 0] 25 := (Blk.new' (by simp) _ _).later hb1
  have g0 := E2.cell 0 rfl
  have g1 := E2.cell 1 rfl
  have e0 := E2.free 0
  have e1 := E2.free 1
  have HB := Lib.hid (bw_call (bw_alloc (bw_alloc (bw_alloc (bw_refl w) _) _) _) hb1)
  clear hb1
  go_wp2
  refine bodyPost_ret (v := .tuple #[.agg #[.int .i64 p, .int .i64 q], .bool b]) (by simp [results, Tryd.results8, go_sem, g0, g1]) rfl ⟨rfl, ?_⟩
  exact bw_setCell (bw_setCell HB.out (by simp; omega) _) (by simp; omega) _
set_option maxRecDepth 100000 in
theorem AddFractions_any (n d m e : Int) (w : World) :
    Calls Tryd.prog 6 #[.agg #[.int .i64 n, .int .i64 d], .agg #[.int .i64 m, .int .i64 e]] w fun r w' => r = .returned (.tuple #[.agg #[.int .i64 (cmN n d m e (n * e + m * d) (d * e)), .int .i64 (cmD n d m e (n * e + m * d) (d * e))], .bool (cmB n d m e (n * e + m * d) (d * e))]) ∧ Below w.heap.size w w' := by
  have hC := fun W => combined_plus n d m e (n * e + m * d) (d * e) W ofOk_plus
  obtain ⟨p, hp⟩ : ∃ p, Hid (cmN n d m e (n * e + m * d) (d * e) = p) := ⟨_, Lib.hid rfl⟩
  obtain ⟨q, hq⟩ : ∃ p, Hid (cmD n d m e (n * e + m * d) (d * e) = p) := ⟨_, Lib.hid rfl⟩
  obtain ⟨b, hb⟩ : ∃ p, Hid (cmB n d m e (n * e + m * d) (d * e) = p) := ⟨_, Lib.hid rfl⟩
  rw [hp.out, hq.out, hb.out]
  have HC := Lib.hid hC
  clear hC
  go_enter Tryd.func6, Tryd.ntmps6
  go_wp2_with fail
  refine (HC.out _).mono ?_
  rw [hp.out, hq.out, hb.out]
  rintro r w1 ⟨rfl, hb1⟩
  have E2 : Blk w1 (w.heap.size + 1 + 1) #[.int .i64 0, .int .i64 0] 25 := (Blk.new' (by simp) _ _).later hb1
  have g0 := E2.cell 0 rfl
  have g1 := E2.cell 1 rfl
  have e0 := E2.free 0
  have e1 := E2.free 1
  have HB := Lib.hid (bw_call (bw_alloc (bw_alloc (bw_alloc (bw_refl w) _) _) _) hb1)
  clear hb1
  go_wp2
  refine bodyPost_ret (v := .tuple #[.agg #[.int .i64 p, .int .i64 q], .bool b]) (by simp [results, Tryd.results6, go_sem, g0, g1]) rfl ⟨rfl, ?_⟩
  exact bw_setCell (bw_setCell HB.out (by simp; omega) _) (by simp; omega) _
set_option maxRecDepth 100000 in
theorem SubFractions_any (n d m e : Int) (w : World) :
    Calls Tryd.prog 7 #[.agg #[.int .i64 n, .int .i64 d], .agg #[.int .i64 m, .int .i64 e]] w fun r w' => r = .returned (.tuple #[.agg #[.int .i64 (cmN n d m e (n * e - m * d) (d * e)), .int .i64 (cmD n d m e (n * e - m * d) (d * e))], .bool (cmB n d m e (n * e - m * d) (d * e))]) ∧ Below w.heap.size w w' := by
  have hC := fun W => combined_minus n d m e (n * e - m * d) (d * e) W ofOk_minus
  obtain ⟨p, hp⟩ : ∃ p, Hid (cmN n d m e (n * e - m * d) (d * e) = p) := ⟨_, Lib.hid rfl⟩
  obtain ⟨q, hq⟩ : ∃ p, Hid (cmD n d m e (n * e - m * d) (d * e) = p) := ⟨_, Lib.hid rfl⟩
  obtain ⟨b, hb⟩ : ∃ p, Hid (cmB n d m e (n * e - m * d) (d * e) = p) := ⟨_, Lib.hid rfl⟩
  rw [hp.out, hq.out, hb.out]
  have HC := Lib.hid hC
  clear hC
  go_enter Tryd.func7, Tryd.ntmps7
  go_wp2_with fail
  refine (HC.out _).mono ?_
  rw [hp.out, hq.out, hb.out]
  rintro r w1 ⟨rfl, hb1⟩
  have E2 : Blk w1 (w.heap.size + 1 + 1) #[.int .i64 0, .int .i64 0] 25 := (Blk.new' (by simp) _ _).later hb1
  have g0 := E2.cell 0 rfl
  have g1 := E2.cell 1 rfl
  have e0 := E2.free 0
  have e1 := E2.free 1
  have HB := Lib.hid (bw_call (bw_alloc (bw_alloc (bw_alloc (bw_refl w) _) _) _) hb1)
  clear hb1
  go_wp2
  refine bodyPost_ret (v := .tuple #[.agg #[.int .i64 p, .int .i64 q], .bool b]) (by simp [results, Tryd.results7, go_sem, g0, g1]) rfl ⟨rfl, ?_⟩
  exact bw_setCell (bw_setCell HB.out (by simp; omega) _) (by simp; omega) _
def dvB (n d m e : Int) : Bool := !(m == 0) && cmB n d m e (dvN n m e) (d * absI m)
def dvP (n d m e : Int) : Int := if m = 0 then 0 else cmN n d m e (dvN n m e) (d * absI m)
def dvQ (n d m e : Int) : Int := if m = 0 then 0 else cmD n d m e (dvN n m e) (d * absI m)
set_option maxRecDepth 100000 in
theorem DivFractions_any (n d m e : Int) (w : World) :
    Calls Tryd.prog 13 #[.agg #[.int .i64 n, .int .i64 d], .agg #[.int .i64 m, .int .i64 e]] w fun r w' => r = .returned (.tuple #[.agg #[.int .i64 (dvP n d m e), .int .i64 (dvQ n d m e)], .bool (dvB n d m e)]) ∧ Below w.heap.size w w' := by
  by_cases hm : m = 0
  · subst hm
    have e1 : dvP n d 0 e = 0 := rfl
    have e2 : dvQ n d 0 e = 0 := rfl
    have e3 : dvB n d 0 e = false := rfl
    rw [e1, e2, e3]
    clear e1 e2 e3
    go_enter Tryd.func13, Tryd.ntmps13
    go_wp2
    refine bodyPost_ret (v := .tuple #[.agg #[.int .i64 0, .int .i64 0], .bool false]) (by simp [results, Tryd.results13, go_sem]) rfl ⟨rfl, ?_⟩
    exact bw_alloc (bw_alloc (bw_alloc (bw_refl _) _) _) _
  · have hC := fun W => combined_over n d m e (dvN n m e) (d * absI m) W (ofOk_over hm)
    have hz : (m == 0) = false := beq_eq_false_iff_ne.2 hm
    have e1 : dvP n d m e = cmN n d m e (dvN n m e) (d * absI m) := if_neg hm
    have e2 : dvQ n d m e = cmD n d m e (dvN n m e) (d * absI m) := if_neg hm
    have e3 : dvB n d m e = cmB n d m e (dvN n m e) (d * absI m) := by unfold dvB; rw [hz]; rfl
    rw [e1, e2, e3]
    obtain ⟨p, hp⟩ : ∃ p, Hid (cmN n d m e (dvN n m e) (d * absI m) = p) := ⟨_, Lib.hid rfl⟩
    obtain ⟨q, hq⟩ : ∃ p, Hid (cmD n d m e (dvN n m e) (d * absI m) = p) := ⟨_, Lib.hid rfl⟩
    obtain ⟨b, hb⟩ : ∃ p, Hid (cmB n d m e (dvN n m e) (d * absI m) = p) := ⟨_, Lib.hid rfl⟩
    rw [hp.out, hq.out, hb.out]
    have HC := Lib.hid hC
    clear hC e1 e2 e3
    go_enter Tryd.func13, Tryd.ntmps13
    go_wp2_with fail
    refine (HC.out _).mono ?_
    rw [hp.out, hq.out, hb.out]
    rintro r w1 ⟨rfl, hb1⟩
    have E2 : Blk w1 (w.heap.size + 1 + 1) #[.int .i64 0, .int .i64 0] 25 := (Blk.new' (by simp) _ _).later hb1
    have g0 := E2.cell 0 rfl
    have g1 := E2.cell 1 rfl
    have e0 := E2.free 0
    have e1 := E2.free 1
    have HB := Lib.hid (bw_call (bw_alloc (bw_alloc (bw_alloc (bw_refl w) _) _) _) hb1)
    clear hb1
    go_wp2
    refine bodyPost_ret (v := .tuple #[.agg #[.int .i64 p, .int .i64 q], .bool b]) (by simp [results, Tryd.results13, go_sem, g0, g1]) rfl ⟨rfl, ?_⟩
    exact bw_setCell (bw_setCell HB.out (by simp; omega) _) (by simp; omega) _
def cpB (n d m e : Int) : Bool := vfB n d && vfB m e
def cpV (n d m e : Int) : Int := if cpB n d m e = true then sgn (n * e - m * d) else 0
set_option maxRecDepth 100000 in
theorem CompareFractions_any (n d m e : Int) (w : World) :
    Calls Tryd.prog 9 #[.agg #[.int .i64 n, .int .i64 d], .agg #[.int .i64 m, .int .i64 e]] w fun r w' => r = .returned (.tuple #[.int .i64 (cpV n d m e), .bool (cpB n d m e)]) ∧ Below w.heap.size w w' := by
  cases hv : (vfB n d && vfB m e) with
  | false =>
    have e1 : Hid (cpB n d m e = false) := Lib.hid hv
    have e2 : Hid (cpV n d m e = 0) := Lib.hid (by unfold cpV; rw [e1.out]; rfl)
    rw [e1.out, e2.out]
    go_enter Tryd.func9, Tryd.ntmps9
    go_wp2_with fail
    refine (areFractions_two _ _ hv (by simp)).mono ?_
    rintro r w1 ⟨rfl, hb1⟩
    have HB := Lib.hid (bw_call (bw_alloc (bw_alloc (bw_refl w) _) _) hb1)
    clear hb1
    go_wp2
    go_ret2
    exact ⟨rfl, HB.out⟩
  | true =>
    have hv1 : vfB n d = true := by rw [Bool.and_eq_true] at hv; exact hv.1
    have hv2 : vfB m e = true := by rw [Bool.and_eq_true] at hv; exact hv.2
    obtain ⟨v1, v2, v3⟩ := vfB_true hv1
    obtain ⟨u1, u2, u3⟩ := vfB_true hv2
    have e1 : Hid (cpB n d m e = true) := Lib.hid hv
    have e2 : Hid (cpV n d m e = sgn (n * e - m * d)) := Lib.hid (by unfold cpV; rw [if_pos e1.out])
    rw [e1.out, e2.out]
    clear v3 u3 hv1 hv2
    go_enter Tryd.func9, Tryd.ntmps9
    go_wp2_with fail
    refine (areFractions_two _ _ hv (by simp)).mono ?_
    rintro r w1 ⟨rfl, hb1⟩
    have E0 : Blk w1 w.heap.size #[.int .i64 n, .int .i64 d] 25 := (((Blk.new w _ _).alloc _)).later hb1
    have E1 : Blk w1 (w.heap.size + 1) #[.int .i64 m, .int .i64 e] 25 := (Blk.new' (by simp) _ _).later hb1
    have HB := Lib.hid (bw_call (bw_alloc (bw_alloc (bw_refl w) _) _) hb1)
    have q00 := E0.cell 0 rfl
    have q01 := E0.cell 1 rfl
    have q10 := E1.cell 0 rfl
    have q11 := E1.cell 1 rfl
    clear hb1
    go_wp2_with fail
    have R0 : Hid (∀ W, Calls Tryd.prog 25 #[.agg #[.int .i64 n, .int .i64 d]] W fun e w' => RetR (fun s => s = decide (n < 0)) (absI n) d W e w') := Lib.hid (fun W => ratioOf_any n d W v2.1 v2.2 (by omega) v1.2)
    have R1 : Hid (∀ W, Calls Tryd.prog 25 #[.agg #[.int .i64 m, .int .i64 e]] W fun e' w' => RetR (fun s => s = decide (m < 0)) (absI m) e W e' w') := Lib.hid (fun W => ratioOf_any m e W u2.1 u2.2 (by omega) u1.2)
    have HC : Hid (∀ (w : World) (s1 s2 : Bool) (a1 b1 a2 b2 : Option Addr) (ca1 cb1 ca2 cb2 : Nat) (x1 y1 x2 y2 : List Int), s1 = decide (n < 0) → s2 = decide (m < 0) → RatV w a1 ca1 x1 b1 cb1 y1 (absI n) d → RatV w a2 ca2 x2 b2 cb2 y2 (absI m) e →
        Calls Tryd.prog 26 #[.agg #[.bool s1, .slice a1 x1.length ca1, .slice b1 y1.length cb1], .agg #[.bool s2, .slice a2 x2.length ca2, .slice b2 y2.length cb2]] w fun r w' => r = .returned (.int .i64 (sgn (n * e - m * d))) ∧ Below w.heap.size w w') := Lib.hid (by
      intro w s1 s2 a1 b1 a2 b2 ca1 cb1 ca2 cb2 x1 y1 x2 y2 hs1 hs2 r1 r2
      have h := rcompare_any s1 s2 a1 b1 a2 b2 ca1 cb1 ca2 cb2 x1 y1 x2 y2 _ _ _ _ w r1 r2 ⟨abs_lt_bp v2, den_lt_bp v1⟩ ⟨abs_lt_bp u2, den_lt_bp u1⟩
      rwa [hs1, hs2, sg_abs, sg_abs, ← hs1, ← hs2] at h)
    go_region_held3 (fun w' => w'.cell? ⟨w.heap.size, 0, none⟩ = some (.int .i64 n) ∧ w'.cell? ⟨w.heap.size, 1, none⟩ = some (.int .i64 d) ∧ w'.cell? ⟨w.heap.size + 1, 0, none⟩ = some (.int .i64 m) ∧ w'.cell? ⟨w.heap.size + 1, 1, none⟩ = some (.int .i64 e)) (go_keep)
      (first
        | (go_at_call 25; (with_reducible refine (R0.out _).mono ?_); rintro e' w2 ⟨s2, p2, c2, z2, p3, c3, z3, rfl, hs2, hn2, hn3, hb2⟩
           have HS2 := Lib.hid hs2
           clear hs2
           have B2 := bw_call (bw_drew HB.out) hb2
           have E3 := E0.drew.later hb2; have E4 := E1.drew.later hb2
           have q20 := E3.cell 0 rfl; have q21 := E3.cell 1 rfl; have q22 := E4.cell 0 rfl; have q23 := E4.cell 1 rfl)
        | (go_at_call 25; (with_reducible refine (R1.out _).mono ?_); rintro e' w4 ⟨s4, p4, c4, z4, p5, c5, z5, rfl, hs4, hn4, hn5, hb4⟩
           have HS4 := Lib.hid hs4
           clear hs4
           have B4 := bw_call B2 hb4
           have E6 := E3.later hb4; have E7 := E4.later hb4
           have q30 := E6.cell 0 rfl; have q31 := E6.cell 1 rfl; have q32 := E7.cell 0 rfl; have q33 := E7.cell 1 rfl
           have V1 : RatV w4 p2 c2 z2 p3 c3 z3 (absI n) d := ⟨hn2.later hb4, hn3.later hb4, by omega⟩
           have V2 : RatV w4 p4 c4 z4 p5 c5 z5 (absI m) e := ⟨hn4, hn5, by omega⟩)
        | (go_at_call 26; refine (HC.out w4 s2 s4 p2 p3 p4 p5 c2 c3 c4 c5 z2 z3 z4 z5 HS2.out HS4.out V1 V2).mono ?_; rintro e'' w7 ⟨rfl, hb7⟩
           have B7 := bw_call B4 hb7
           have E9 := E6.later hb7; have E10 := E7.later hb7
           have q40 := E9.cell 0 rfl; have q41 := E9.cell 1 rfl; have q42 := E10.cell 0 rfl; have q43 := E10.cell 1 rfl))
    have B7 := Lib.hid B7
    clear hn2 hn3 hn4 hn5 V1 V2 hb2 hb4 hb7 B2 B4
    go_wp2
    go_ret2
    exact ⟨rfl, B7.out⟩
end Go.Proofs.YthkmhpkoanmbkaaDoor
