/-
  Contracts of the reference's sums, products and comparison of fractions. Conditions: both fractions are valid.
-/
import Derived.Test.YtcmmcffglmcegaaS2
import Derived.Test.YtcmmcffglmcegaaN17
namespace Go.Proofs.Ytcmmcffglmcegaa
open Go.RowKit
set_option linter.unusedVariables false

/-- The program's answer, by the lowest terms. -/
theorem cm_red {n d m e N D p q : Int} (h1 : vfB n d = true) (h2 : vfB m e = true) (hq : 0 < q) (hD : 0 < D) (hc : CopI p q) (h : N * q = p * D) :
    cmB n d m e N D = (decide (absI p ≤ 1000000000000000000) && decide (q ≤ 1000000000000000000)) ∧ (cmB n d m e N D = true → cmN n d m e N D = p ∧ cmD n d m e N D = q) := by
  obtain ⟨k, k0, e1, e2, e3⟩ := red_factor hq hD hc h
  have a1 : absI N / gcdI (absI N) D = absI p := by
    rw [e3, e1]
    have hk : (k.natAbs : Int) = k := Int.natAbs_of_nonneg (by omega)
    have : absI (p * k) = absI p * k := by unfold absI; rw [Int.natAbs_mul, Int.natCast_mul, hk]
    rw [this]
    exact Int.mul_ediv_cancel _ (by omega)
  have a2 : D / gcdI (absI N) D = q := by
    rw [e3, e2]
    exact Int.mul_ediv_cancel _ (by omega)
  have a3 : cmB n d m e N D = (decide (absI p ≤ 1000000000000000000) && decide (q ≤ 1000000000000000000)) := by
    unfold cmB frB
    rw [h1, h2, a1, a2]; rfl
  refine ⟨a3, fun hb => ⟨?_, ?_⟩⟩
  · unfold cmN
    rw [if_pos hb, a1]
    have : decide (N < 0) = decide (p < 0) := by
      refine decide_eq_decide.2 ⟨fun hn => ?_, fun hp => ?_⟩
      · by_cases c : p < 0
        · exact c
        · have := Int.mul_nonneg (show 0 ≤ p by omega) (show 0 ≤ k by omega)
          omega
      · have := Int.mul_neg_of_neg_of_pos hp k0
        omega
    rw [this]
    exact sg_abs p
  · unfold cmD
    rw [if_pos hb, a2]
/-- Lowest terms, as the reference makes them. -/
theorem fm_red {n e : Int} (he : 0 < e) : ∃ k : Int, 0 < k ∧ n = fmN n e * k ∧ e = fmD n e * k ∧ CopI (fmN n e) (fmD n e) ∧ 0 < fmD n e := by
  obtain ⟨p, q, k, q0, k0, h1, h2, h3, h4, h5, h6⟩ := red_exists (N := n) he
  have e1 : fmN n e = p := by unfold fmN; rw [if_neg (by omega), h4, h5]
  have e2 : fmD n e = q := by unfold fmD; rw [if_neg (by omega), h4, h6]
  rw [e1, e2]
  exact ⟨k, k0, h1, h2, h3, q0⟩
theorem abs_factor {n p k M : Int} (h : n = p * k) (k0 : 0 < k) (hn : -M ≤ n ∧ n ≤ M) : -M ≤ p ∧ p ≤ M := by
  by_cases c : 0 ≤ p
  · have : p * 1 ≤ p * k := Int.mul_le_mul_of_nonneg_left (by omega) c
    omega
  · have : (-p) * 1 ≤ (-p) * k := Int.mul_le_mul_of_nonneg_left (by omega) (by omega)
    have e2 : (-p) * k = -(p * k) := Int.neg_mul _ _
    rw [e2] at this
    omega
theorem absI_mul (a b : Int) : absI (a * b) = absI a * absI b := by unfold absI; rw [Int.natAbs_mul]; simp
set_option maxRecDepth 100000 in
set_option maxHeartbeats 2000000 in
theorem l01FMul_any (n d m e : Int) (w : World) (h1 : vfB n d = true) (h2 : vfB m e = true) :
    Calls Try.prog 27 #[.agg #[.int .i64 n, .int .i64 d], .agg #[.int .i64 m, .int .i64 e]] w fun r w' => r = .returned (.tuple #[.agg #[.int .i64 (cmN n d m e (n * m) (d * e)), .int .i64 (cmD n d m e (n * m) (d * e))], .bool (cmB n d m e (n * m) (d * e))]) ∧ Below w.heap.size w w' := by
  obtain ⟨v1, v2, v3⟩ := vfB_true h1
  obtain ⟨u1, u2, u3⟩ := vfB_true h2
  obtain ⟨k, k0, f1, f2, f3, f4⟩ := fm_red (n := n) (e := e) (by omega)
  obtain ⟨j, j0, g1, g2, g3, g4⟩ := fm_red (n := m) (e := d) (by omega)
  have bn1 := abs_factor f1 k0 v2
  have be1 := abs_factor (M := 1000000000000000000) f2 k0 (by omega)
  have bm1 := abs_factor g1 j0 u2
  have bd1 := abs_factor (M := 1000000000000000000) g2 j0 (by omega)
  obtain ⟨c1, c2⟩ := mul_red (by omega) (by omega) (CopI.of (by omega) v3) (CopI.of (by omega) u3) k0 j0 f1 f2 g1 g2 f3 g3
  have hcm := cm_red h1 h2 (Int.mul_pos f4 g4) (Int.mul_pos (show 0 < d by omega) (show 0 < e by omega)) c1 c2
  obtain ⟨n1, hn1⟩ : ∃ x, Hid (fmN n e = x) := ⟨_, Lib.hid rfl⟩
  obtain ⟨e1, he1⟩ : ∃ x, Hid (fmD n e = x) := ⟨_, Lib.hid rfl⟩
  obtain ⟨m1, hm1⟩ : ∃ x, Hid (fmN m d = x) := ⟨_, Lib.hid rfl⟩
  obtain ⟨d1, hd1⟩ : ∃ x, Hid (fmD m d = x) := ⟨_, Lib.hid rfl⟩
  rw [hn1.out, he1.out, hm1.out, hd1.out] at hcm
  rw [hn1.out] at bn1
  rw [he1.out] at be1 f4
  rw [hm1.out] at bm1
  rw [hd1.out] at bd1 g4
  have HCM := Lib.hid hcm
  clear f1 f2 f3 g1 g2 g3 c1 c2 v3 u3 hcm
  go_enter Try.func27, Try.ntmps27
  go_wp2_with fail
  refine (l01FMake_any n e _ v2 (by omega) (by omega)).mono ?_
  rw [hn1.out, he1.out]
  rintro r w1 ⟨rfl, hb1⟩
  have E0 := Lib.hid (show Blk w1 w.heap.size #[.int .i64 n, .int .i64 d] 24 from ((((Blk.new w _ _).alloc _).alloc _)).later hb1)
  have E1 := Lib.hid (show Blk w1 (w.heap.size + 1) #[.int .i64 m, .int .i64 e] 24 from ((Blk.new' (by simp) _ _).alloc _).later hb1)
  have E2 := Lib.hid (show Blk w1 (w.heap.size + 1 + 1) #[.int .i64 0, .int .i64 0] 24 from (Blk.new' (by simp) _ _).later hb1)
  have HB := Lib.hid (bw_call (bw_alloc (bw_alloc (bw_alloc (bw_refl w) _) _) _) hb1)
  have q00 := E0.out.cell 0 rfl
  have q01 := E0.out.cell 1 rfl
  have q10 := E1.out.cell 0 rfl
  have q11 := E1.out.cell 1 rfl
  have s1 := hb1.size
  simp at s1
  clear hb1
  have t0 : w.heap.size < w1.heap.size := by omega
  have t1 : w.heap.size + 1 < w1.heap.size := by omega
  have t2 : w.heap.size + 1 + 1 < w1.heap.size := by omega
  have z0 : ¬ w.heap.size = w1.heap.size := by omega
  have z1 : ¬ w.heap.size + 1 = w1.heap.size := by omega
  have z2 : ¬ w.heap.size + 1 + 1 = w1.heap.size := by omega
  go_wp2_with fail
  refine (l01FMake_any m d _ u2 (by omega) (by omega)).mono ?_
  rw [hm1.out, hd1.out]
  rintro r w2 ⟨rfl, hb2⟩
  have A2 := Lib.hid (show Blk w2 w1.heap.size #[.int .i64 n1, .int .i64 e1] 24 from (Blk.new w1 _ _).later hb2)
  have E3 := Lib.hid ((E2.out.alloc (.cells #[.int .i64 n1, .int .i64 e1] 24)).later hb2)
  have HB2 := Lib.hid (bw_call (bw_alloc HB.out (.cells #[.int .i64 n1, .int .i64 e1] 24)) hb2)
  have s2 := hb2.size
  simp at s2
  clear hb2 q00 q01 q10 q11 E0 E1 E2 HB
  have a0 := A2.out.cell 0 rfl
  have a1 := A2.out.cell 1 rfl
  have y0 : ¬ w1.heap.size = w2.heap.size := by omega
  have y1 : ¬ w.heap.size + 1 + 1 = w2.heap.size := by omega
  have x0 : w1.heap.size < w2.heap.size := by omega
  have x1 : w.heap.size + 1 + 1 < w2.heap.size := by omega
  have m0 := absI_nonneg n1
  have m1' := absI_nonneg m1
  have m2 := absI_le bn1.1 bn1.2
  have m3 := absI_le bm1.1 bm1.2
  have bx := word_bd (x := absI n1) (y := absI m1) (m := 1000000000000000000) (n := 1000000000000000000) m0 m2 m1' m3
  have by1 := word_bd (x := e1) (y := d1) (m := 1000000000000000000) (n := 1000000000000000000) (by omega) (by omega) (by omega) (by omega)
  obtain ⟨X, hX⟩ : ∃ X, absI n1 * absI m1 = X := ⟨_, rfl⟩
  obtain ⟨Y, hY⟩ : ∃ X, e1 * d1 = X := ⟨_, rfl⟩
  have T1 : Hid (∀ W, Calls Try.prog 46 #[.int .i64 (absI n1), .int .i64 (absI m1)] W fun r w' => r = .returned (wd X) ∧ Below W.heap.size W w') := Lib.hid (fun W => by rw [← hX]; exact l01Times_any _ _ W m0 m2 m1' m3)
  have T2 : Hid (∀ W, Calls Try.prog 46 #[.int .i64 e1, .int .i64 d1] W fun r w' => r = .returned (wd Y) ∧ Below W.heap.size W w') := Lib.hid (fun W => by rw [← hY]; exact l01Times_any _ _ W (by omega) (by omega) (by omega) (by omega))
  rw [hX] at bx
  rw [hY] at by1
  have HX : Hid (absI (n1 * m1) = X) := Lib.hid (by rw [absI_mul]; exact hX)
  have HY := Lib.hid hY
  have un1 : Hid (IntKind.i64.wrap (-n1) = -n1) := Lib.hid (by rw [IntKind.wrap_i64]; omega)
  have um1 : Hid (IntKind.i64.wrap (-m1) = -m1) := Lib.hid (by rw [IntKind.wrap_i64]; omega)
  obtain ⟨xv, hxv⟩ : ∃ v, (if X ≤ 1000000000000000000 then X else 0) = v := ⟨_, rfl⟩
  obtain ⟨xb, hxb⟩ : ∃ v, decide (X ≤ 1000000000000000000) = v := ⟨_, rfl⟩
  obtain ⟨yv, hyv⟩ : ∃ v, (if Y ≤ 1000000000000000000 then Y else 0) = v := ⟨_, rfl⟩
  obtain ⟨yb, hyb⟩ : ∃ v, decide (Y ≤ 1000000000000000000) = v := ⟨_, rfl⟩
  have T3 : Hid (∀ W, Calls Try.prog 45 #[wd X] W fun r w' => r = .returned (.tuple #[.int .i64 xv, .bool xb]) ∧ Below W.heap.size W w') := Lib.hid (fun W => by rw [← hxv, ← hxb]; exact l01Small_any X W bx.1 (by omega))
  have T4 : Hid (∀ W, Calls Try.prog 45 #[wd Y] W fun r w' => r = .returned (.tuple #[.int .i64 yv, .bool yb]) ∧ Below W.heap.size W w') := Lib.hid (fun W => by rw [← hyv, ← hyb]; exact l01Small_any Y W by1.1 (by omega))
  have bxv : 0 ≤ xv ∧ xv ≤ 1000000000000000000 := by rw [← hxv]; split <;> omega
  have HXV := Lib.hid hxv
  have HXB := Lib.hid hxb
  have HYV := Lib.hid hyv
  have HYB := Lib.hid hyb
  clear hX hY hxv hxb hyv hyb
  go_wp2_with fail
  go_region_held3 (fun w' => w'.cell? ⟨w1.heap.size, 0, none⟩ = some (.int .i64 n1) ∧ w'.cell? ⟨w2.heap.size, 0, none⟩ = some (.int .i64 m1)) (go_keep)
    (first
      | (go_at_call 44; (with_reducible refine (l00Max_of n1 (IntKind.i64.wrap (-n1)) _ un1.out bn1.1 bn1.2).mono ?_); rintro r w3 ⟨rfl, rfl⟩)
      | (go_at_call 44; (with_reducible refine (l00Max_of m1 (IntKind.i64.wrap (-m1)) _ um1.out bm1.1 bm1.2).mono ?_); rintro r w3 ⟨rfl, rfl⟩)
      | (go_at_call 46; refine (T1.out _).mono ?_; rintro r w4 ⟨rfl, hb4⟩
         have A4 := ((A2.out.alloc (.cells #[.int .i64 m1, .int .i64 d1] 24)).drew).later hb4
         have C4 : Blk w4 w2.heap.size #[.int .i64 m1, .int .i64 d1] 24 := ((Blk.new w2 _ _).drew).later hb4
         have E4 := ((E3.out.alloc (.cells #[.int .i64 m1, .int .i64 d1] 24)).drew).later hb4
         have B4 := bw_call (bw_drew (bw_alloc HB2.out (.cells #[.int .i64 m1, .int .i64 d1] 24))) hb4
         have q40 := A4.cell 0 rfl; have q41 := C4.cell 0 rfl)
      | (go_at_call 45; refine (T3.out _).mono ?_; rintro r w5 ⟨rfl, hb5⟩
         have A5 := A4.later hb5; have C5 := C4.later hb5; have E5 := E4.later hb5
         have B5 := bw_call B4 hb5
         have q50 := A5.cell 0 rfl; have q51 := C5.cell 0 rfl; have q52 := A5.cell 1 rfl; have q53 := C5.cell 1 rfl))
  have A5 := Lib.hid A5
  have C5 := Lib.hid C5
  have E5 := Lib.hid E5
  have B5 := Lib.hid B5
  clear hb4 hb5 A4 C4 E4 B4 q40 q41 a0 a1 A2 E3 HB2
  go_wp2_with fail
  refine (T2.out _).mono ?_
  rintro r w6 ⟨rfl, hb6⟩
  have A6 := Lib.hid (A5.out.later hb6)
  have C6 := Lib.hid (C5.out.later hb6)
  have E6 := Lib.hid (E5.out.later hb6)
  have B6 := Lib.hid (bw_call B5.out hb6)
  clear hb6
  go_wp2_with fail
  refine (T4.out _).mono ?_
  rintro r w7 ⟨rfl, hb7⟩
  have A7 := A6.out.later hb7
  have C7 := C6.out.later hb7
  have E7 := E6.out.later hb7
  have B7 := Lib.hid (bw_call B6.out hb7)
  clear hb7 A5 C5 E5 B5 A6 C6 E6 B6 q50 q51 q52 q53
  have q70 := A7.cell 0 rfl
  have q71 := C7.cell 0 rfl
  have g0 := E7.cell 0 rfl
  have g1 := E7.cell 1 rfl
  have e0 := E7.free 0
  have e1' := E7.free 1
  have HFIN : Hid (cmB n d m e (n * m) (d * e) = (xb && yb) ∧ (xb = true → yb = true → cmN n d m e (n * m) (d * e) = n1 * m1 ∧ cmD n d m e (n * m) (d * e) = yv ∧ xv = absI (n1 * m1)) ∧ ((xb && yb) = false → cmN n d m e (n * m) (d * e) = 0 ∧ cmD n d m e (n * m) (d * e) = 0)) := Lib.hid (by
    obtain ⟨c1, c2⟩ := HCM.out
    have c3 : cmB n d m e (n * m) (d * e) = (xb && yb) := by rw [c1, HX.out, HY.out, HXB.out, HYB.out]
    refine ⟨c3, fun h1 h2 => ?_, fun h => ?_⟩
    · have h3 : X ≤ 1000000000000000000 := by
        have := HXB.out; rw [h1] at this; exact of_decide_eq_true this
      have h4 : Y ≤ 1000000000000000000 := by
        have := HYB.out; rw [h2] at this; exact of_decide_eq_true this
      obtain ⟨d1', d2'⟩ := c2 (by rw [c3, h1, h2]; rfl)
      refine ⟨d1', ?_, ?_⟩
      · rw [d2', HY.out, ← HYV.out, if_pos h4]
      · rw [← HXV.out, if_pos h3, HX.out]
    · rw [h] at c3
      unfold cmN cmD
      rw [c3]
      exact ⟨rfl, rfl⟩)
  cases hxb : xb with
  | false =>
    have F : Hid (cmB n d m e (n * m) (d * e) = false ∧ cmN n d m e (n * m) (d * e) = 0 ∧ cmD n d m e (n * m) (d * e) = 0) := Lib.hid ⟨by rw [HFIN.out.1, hxb]; rfl, HFIN.out.2.2 (by rw [hxb]; rfl)⟩
    clear HFIN
    go_wp2
    refine bodyPost_ret (v := .tuple #[.agg #[.int .i64 0, .int .i64 0], .bool false]) (by simp [results, Try.results27, go_sem, g0, g1]) rfl ⟨by rw [F.out.1, F.out.2.1, F.out.2.2], ?_⟩
    exact bw_setCell (bw_setCell B7.out (by simp <;> omega) _) (by simp <;> omega) _
  | true =>
    cases hyb : yb with
    | false =>
      have F : Hid (cmB n d m e (n * m) (d * e) = false ∧ cmN n d m e (n * m) (d * e) = 0 ∧ cmD n d m e (n * m) (d * e) = 0) := Lib.hid ⟨by rw [HFIN.out.1, hyb]; simp, HFIN.out.2.2 (by rw [hyb]; simp)⟩
      clear HFIN
      go_wp2
      refine bodyPost_ret (v := .tuple #[.agg #[.int .i64 0, .int .i64 0], .bool false]) (by simp [results, Try.results27, go_sem, g0, g1]) rfl ⟨by rw [F.out.1, F.out.2.1, F.out.2.2], ?_⟩
      exact bw_setCell (bw_setCell B7.out (by simp <;> omega) _) (by simp <;> omega) _
    | true =>
      have F : Hid (cmB n d m e (n * m) (d * e) = true ∧ cmN n d m e (n * m) (d * e) = n1 * m1 ∧ cmD n d m e (n * m) (d * e) = yv ∧ xv = absI (n1 * m1)) := Lib.hid ⟨by rw [HFIN.out.1, hxb, hyb]; rfl, HFIN.out.2.1 hxb hyb⟩
      clear HFIN
      have uxv : IntKind.i64.wrap (-xv) = -xv := by rw [IntKind.wrap_i64]; omega
      by_cases c1 : n1 < 0
      · by_cases c2 : m1 < 0
        · have HX2 : Hid (n1 * m1 = xv) := Lib.hid (by
            rw [F.out.2.2.2, absI_mul]; unfold absI
            rw [show (n1.natAbs : Int) = -n1 by omega, show (m1.natAbs : Int) = -m1 by omega]; grind)
          have p1 : decide (n1 < 0) = true := decide_eq_true c1
          have p2 : decide (m1 < 0) = true := decide_eq_true c2
          clear c1 c2
          go_wp2
          refine bodyPost_ret (v := .tuple #[.agg #[.int .i64 xv, .int .i64 yv], .bool true]) (by simp [results, Try.results27, go_sem, g0, g1]) rfl ⟨by rw [F.out.1, F.out.2.1, F.out.2.2.1, HX2.out], ?_⟩
          exact bw_setCell (bw_setCell B7.out (by simp <;> omega) _) (by simp <;> omega) _
        · have HX2 : Hid (n1 * m1 = -xv) := Lib.hid (by
            rw [F.out.2.2.2, absI_mul]; unfold absI
            rw [show (n1.natAbs : Int) = -n1 by omega, show (m1.natAbs : Int) = m1 by omega]; grind)
          have p1 : decide (n1 < 0) = true := decide_eq_true c1
          have p2 : decide (m1 < 0) = false := decide_eq_false c2
          clear c1 c2
          go_wp2
          refine bodyPost_ret (v := .tuple #[.agg #[.int .i64 (-xv), .int .i64 yv], .bool true]) (by simp [results, Try.results27, go_sem, g0, g1]) rfl ⟨by rw [F.out.1, F.out.2.1, F.out.2.2.1, HX2.out], ?_⟩
          exact bw_setCell (bw_setCell B7.out (by simp <;> omega) _) (by simp <;> omega) _
      · by_cases c2 : m1 < 0
        · have HX2 : Hid (n1 * m1 = -xv) := Lib.hid (by
            rw [F.out.2.2.2, absI_mul]; unfold absI
            rw [show (n1.natAbs : Int) = n1 by omega, show (m1.natAbs : Int) = -m1 by omega]; grind)
          have p1 : decide (n1 < 0) = false := decide_eq_false c1
          have p2 : decide (m1 < 0) = true := decide_eq_true c2
          clear c1 c2
          go_wp2
          refine bodyPost_ret (v := .tuple #[.agg #[.int .i64 (-xv), .int .i64 yv], .bool true]) (by simp [results, Try.results27, go_sem, g0, g1]) rfl ⟨by rw [F.out.1, F.out.2.1, F.out.2.2.1, HX2.out], ?_⟩
          exact bw_setCell (bw_setCell B7.out (by simp <;> omega) _) (by simp <;> omega) _
        · have HX2 : Hid (n1 * m1 = xv) := Lib.hid (by
            rw [F.out.2.2.2, absI_mul]; unfold absI
            rw [show (n1.natAbs : Int) = n1 by omega, show (m1.natAbs : Int) = m1 by omega])
          have p1 : decide (n1 < 0) = false := decide_eq_false c1
          have p2 : decide (m1 < 0) = false := decide_eq_false c2
          clear c1 c2
          go_wp2
          refine bodyPost_ret (v := .tuple #[.agg #[.int .i64 xv, .int .i64 yv], .bool true]) (by simp [results, Try.results27, go_sem, g0, g1]) rfl ⟨by rw [F.out.1, F.out.2.1, F.out.2.2.1, HX2.out], ?_⟩
          exact bw_setCell (bw_setCell B7.out (by simp <;> omega) _) (by simp <;> omega) _
end Go.Proofs.Ytcmmcffglmcegaa
