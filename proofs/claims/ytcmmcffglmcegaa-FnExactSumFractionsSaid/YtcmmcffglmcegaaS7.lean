/-
  Contract of the reference's sum of two fractions. Conditions: both fractions are valid.
-/
import Derived.Test.YtcmmcffglmcegaaS4
namespace Go.Proofs.Ytcmmcffglmcegaa
open Go.RowKit
set_option linter.unusedVariables false

theorem absI_of_nonneg {n : Int} (h : 0 ≤ n) : absI n = n := absI_pos h
/-- What the reference reckons is the program's answer. -/
theorem add_fin {n d m e c d1 e1 T b : Int} {ms : Bool} (h1 : vfB n d = true) (h2 : vfB m e = true) (hc : gcdI d e = c) (hd1 : d / c = d1) (he1 : e / c = e1) (hT : sg ms T = n * e1 + m * d1) (T0 : 0 ≤ T) (hb : gcdI c (T % c) = b) :
    (0 < b ∧ b ≤ c) ∧ (1 ≤ e / b ∧ e / b ≤ e) ∧ (1 ≤ d1 ∧ d1 ≤ d) ∧ cmB n d m e (n * e + m * d) (d * e) = (decide (T / b ≤ 1000000000000000000) && decide (d1 * (e / b) ≤ 1000000000000000000)) ∧
    (cmB n d m e (n * e + m * d) (d * e) = true → cmN n d m e (n * e + m * d) (d * e) = sg ms (T / b) ∧ cmD n d m e (n * e + m * d) (d * e) = d1 * (e / b)) ∧ (T / b = 0 → d1 * (e / b) = 1) := by
  obtain ⟨v1, v2, v3⟩ := vfB_true h1
  obtain ⟨u1, u2, u3⟩ := vfB_true h2
  obtain ⟨x, y, k, y0, k0, a1, a2, a3, a4, a5, a6⟩ := red_exists (N := d) (D := e) (by omega)
  rw [absI_of_nonneg (show 0 ≤ d by omega), hc] at a4
  subst a4
  have ex : d1 = x := by rw [← hd1, ← a5, Int.tdiv_eq_ediv_of_nonneg (by omega)]
  have ey : e1 = y := by rw [← he1, a6]
  subst ex
  subst ey
  obtain ⟨q0, c1, j, c10, j0, b1, b2, b3, b4, b5, b6⟩ := red_exists (N := T) (D := c) k0
  rw [absI_of_nonneg T0, ← gcdI_step T0 k0, hb] at b4
  subst b4
  have hq0 : T / b = q0 := by rw [← b5, Int.tdiv_eq_ediv_of_nonneg T0]
  have hcq : CopI (sg ms q0) c1 := by unfold sg; split; exact b3.neg; exact b3
  have ht : sg ms T = sg ms q0 * b := by
    rw [b1]; unfold sg; split
    · rw [Int.neg_mul]
    · rfl
  obtain ⟨f1, f2, f3, f4⟩ := add_red (n := n) (d := d) (m := m) (e := e) (by omega) (by omega) (CopI.of (by omega) v3) (CopI.of (by omega) u3) k0 a1 a2 a3 hT j0 ht b2 hcq
  have hcm := cm_red h1 h2 f3 (Int.mul_pos (show 0 < d by omega) (show 0 < e by omega)) f1 f2
  have hab : absI (sg ms q0) = q0 := by
    have : 0 ≤ q0 := by rw [← hq0]; exact Int.ediv_nonneg T0 (by omega)
    unfold sg absI; split <;> omega
  have d1p : 0 < d1 := pos_of_mul (show 0 < d by omega) a1 k0
  rw [hab] at hcm
  rw [hq0, f4]
  have hE : 0 < c1 * e1 := Int.mul_pos c10 y0
  have hEe : c1 * e1 ≤ e := by
    rw [← f4]; exact Int.ediv_le_self _ (by omega)
  have hbc : b ≤ c := by
    rw [b2]
    have : 1 * b ≤ c1 * b := Int.mul_le_mul_of_nonneg_right (by omega) (by omega)
    omega
  have hdd : d1 ≤ d := by
    rw [a1]
    have : d1 * 1 ≤ d1 * c := Int.mul_le_mul_of_nonneg_left (by omega) (by omega)
    omega
  refine ⟨⟨j0, hbc⟩, ⟨by omega, hEe⟩, ⟨by omega, hdd⟩, hcm.1, hcm.2, fun hz => ?_⟩
  rw [hz] at f1
  have e0 : sg ms 0 = 0 := by unfold sg; split <;> rfl
  rw [e0] at f1
  unfold CopI at f1
  rw [Int.natAbs_zero, Nat.gcd_zero_left] at f1
  omega
set_option maxRecDepth 100000 in
set_option maxHeartbeats 16000000 in
theorem l01FAdd_same (n d m e : Int) (w : World) (h1 : vfB n d = true) (h2 : vfB m e = true) (s1 s2 : Bool) (hs1 : decide (n < 0) = s1) (hs2 : decide (m < 0) = s2) :
    Calls Try.prog 36 #[.agg #[.int .i64 n, .int .i64 d], .agg #[.int .i64 m, .int .i64 e]] w fun r w' => r = .returned (.tuple #[.agg #[.int .i64 (cmN n d m e (n * e + m * d) (d * e)), .int .i64 (cmD n d m e (n * e + m * d) (d * e))], .bool (cmB n d m e (n * e + m * d) (d * e))]) ∧ Below w.heap.size w w' := by
  obtain ⟨v1, v2, v3⟩ := vfB_true h1
  obtain ⟨u1, u2, u3⟩ := vfB_true h2
  clear v3 u3
  have HV1 := Lib.hid h1
  have HV2 := Lib.hid h2
  clear h1 h2
  have hg := gcdI_le (a := d) (b := e) (by omega) (by omega)
  obtain ⟨c, hc⟩ : ∃ c, Hid (gcdI d e = c) := ⟨_, Lib.hid rfl⟩
  rw [hc.out] at hg
  have HG : Hid (∀ W, Calls Try.prog 43 #[.int .i64 d, .int .i64 e] W fun r w' => r = .returned (.int .i64 c) ∧ W = w') := Lib.hid (fun W => l01Gcd_of hc (by omega) (by omega) (by omega) (by omega))
  obtain ⟨e1, he1⟩ : ∃ x, Hid (e / c = x) := ⟨_, Lib.hid rfl⟩
  obtain ⟨d1, hd1⟩ : ∃ x, Hid (d / c = x) := ⟨_, Lib.hid rfl⟩
  have be1 : 0 ≤ e1 ∧ e1 ≤ e := by rw [← he1.out]; exact ⟨Int.ediv_nonneg (by omega) (by omega), Int.ediv_le_self _ (by omega)⟩
  have bd1 : 0 ≤ d1 ∧ d1 ≤ d := by rw [← hd1.out]; exact ⟨Int.ediv_nonneg (by omega) (by omega), Int.ediv_le_self _ (by omega)⟩
  have we : Hid (IntKind.i64.wrap (e.tdiv c) = e1) := Lib.hid (by rw [Int.tdiv_eq_ediv_of_nonneg (by omega), he1.out, IntKind.wrap_i64]; omega)
  have wd1 : Hid (IntKind.i64.wrap (d.tdiv c) = d1) := Lib.hid (by rw [Int.tdiv_eq_ediv_of_nonneg (by omega), hd1.out, IntKind.wrap_i64]; omega)
  have un : Hid (IntKind.i64.wrap (-n) = -n) := Lib.hid (i64_neg v2)
  have um : Hid (IntKind.i64.wrap (-m) = -m) := Lib.hid (i64_neg u2)
  have m0 := absI_nonneg n
  have m1 := absI_nonneg m
  have m2 := absI_le v2.1 v2.2
  have m3 := absI_le u2.1 u2.2
  have bx := word_bd (x := absI n) (y := e1) (m := 1000000000000000000) (n := 1000000000000000000) m0 m2 (by omega) (by omega)
  have by1 := word_bd (x := absI m) (y := d1) (m := 1000000000000000000) (n := 1000000000000000000) m1 m3 (by omega) (by omega)
  obtain ⟨xh, xl, hX⟩ := wd_ex (absI n * e1)
  obtain ⟨yh, yl, hY⟩ := wd_ex (absI m * d1)
  have T1 : Hid (∀ W, Calls Try.prog 46 #[.int .i64 (absI n), .int .i64 (IntKind.i64.wrap (e.tdiv c))] W fun r w' => r = .returned (.agg #[.int .u64 xh, .int .u64 xl]) ∧ Below W.heap.size W w') := Lib.hid (fun W => by rw [← hX, we.out]; exact l01Times_any _ _ W m0 m2 (by omega) (by omega))
  have T2 : Hid (∀ W, Calls Try.prog 46 #[.int .i64 (absI m), .int .i64 (IntKind.i64.wrap (d.tdiv c))] W fun r w' => r = .returned (.agg #[.int .u64 yh, .int .u64 yl]) ∧ Below W.heap.size W w') := Lib.hid (fun W => by rw [← hY, wd1.out]; exact l01Times_any _ _ W m1 m3 (by omega) (by omega))
  have HSG1 : Hid (n = sg s1 (absI n)) := Lib.hid (by rw [← hs1, sg_abs])
  have HSG2 : Hid (m = sg s2 (absI m)) := Lib.hid (by rw [← hs2, sg_abs])
  obtain ⟨X, hXX⟩ : ∃ X, Hid (absI n * e1 = X) := ⟨_, Lib.hid rfl⟩
  obtain ⟨Y, hYY⟩ : ∃ X, Hid (absI m * d1 = X) := ⟨_, Lib.hid rfl⟩
  rw [hXX.out] at hX bx
  rw [hYY.out] at hY by1
  have HX := Lib.hid hX
  have HY := Lib.hid hY
  clear hX hY
  have t0 : w.heap.size < w.heap.size + 1 + 1 + 1 := by omega
  have t1 : w.heap.size + 1 < w.heap.size + 1 + 1 + 1 := by omega
  have t2 : w.heap.size + 1 + 1 < w.heap.size + 1 + 1 + 1 := by omega
  have z0 : ¬ w.heap.size = w.heap.size + 1 + 1 + 1 := by omega
  have z1 : ¬ w.heap.size + 1 = w.heap.size + 1 + 1 + 1 := by omega
  have z2 : ¬ w.heap.size + 1 + 1 = w.heap.size + 1 + 1 + 1 := by omega
  have y0 : ¬ w.heap.size + 1 + 1 + 1 = w.heap.size := by omega
  have y1 : ¬ w.heap.size + 1 + 1 + 1 = w.heap.size + 1 := by omega
  have y2 : ¬ w.heap.size + 1 + 1 + 1 = w.heap.size + 1 + 1 := by omega
  have x0 : ¬ w.heap.size = w.heap.size + 1 + 1 := by omega
  have x1 : ¬ w.heap.size + 1 = w.heap.size + 1 + 1 := by omega
  have x2 : ¬ w.heap.size + 1 + 1 = w.heap.size := by omega
  have x3 : ¬ w.heap.size = w.heap.size + 1 := by omega
  have hcz : (c == 0) = false := beq_eq_false_iff_ne.2 (by omega)
  have hcz2 : ¬ c = 0 := by omega
  go_enter Try.func36, Try.ntmps36
  go_wp2_with fail
  refine (HG.out _).mono ?_
  rintro r w1 ⟨rfl, rfl⟩
  go_wp2_with fail
  refine Code.wp_mono (Q := fun ex a' w' => ex = Exit.normal ∧ ∃ g : Nat, a' = { tmps := #[Value.agg #[Value.int IntKind.i64 n, Value.int IntKind.i64 d], Value.agg #[Value.int IntKind.i64 m, Value.int IntKind.i64 e], Value.pointer (some { block := w.heap.size, off := 0 }), Value.pointer (some { block := w.heap.size + 1, off := 0 }), Value.pointer (some { block := w.heap.size + 1 + 1, off := 0 }), Value.bool false, Value.int IntKind.i64 c, Value.pointer (some { block := g, off := 0 }), undef, undef, undef, undef, undef, undef, undef, undef, undef, undef, undef, undef, Value.pointer (some { block := w.heap.size, off := 1 }), Value.int IntKind.i64 d, Value.pointer (some { block := w.heap.size + 1, off := 1 }), Value.int IntKind.i64 e, Value.int IntKind.i64 c, Value.pointer (some { block := w.heap.size, off := 0 }), Value.int IntKind.i64 n, Value.pointer (some { block := w.heap.size, off := 0 }), Value.int IntKind.i64 n, Value.int IntKind.i64 (IntKind.i64.wrap (-n)), Value.int IntKind.i64 (absI n), Value.pointer (some { block := w.heap.size + 1, off := 1 }), Value.int IntKind.i64 e, Value.int IntKind.i64 c, Value.int IntKind.i64 (IntKind.i64.wrap (e.tdiv c)), Value.agg #[Value.int IntKind.u64 xh, Value.int IntKind.u64 xl], undef, undef, undef, undef, undef, undef, undef, undef, undef, undef, undef, undef, undef, undef, undef, undef, undef, undef, undef, undef, undef, undef, undef, undef, undef, undef, undef, undef, undef, undef, undef, undef, undef, undef, undef, undef, undef, undef, undef, undef, undef, undef, undef, undef, undef, undef, undef, undef, undef, undef, undef, undef, undef, undef, undef, undef, undef, undef, undef, undef, undef, undef, undef, undef, undef, undef, undef, undef, undef, undef, undef, undef, undef, undef, undef, undef, undef, undef, undef, undef, undef, undef, undef, undef, undef, undef, undef], defers := [] } ∧ Hid (Blk w' w.heap.size #[.int .i64 n, .int .i64 d] 24 ∧ Blk w' (w.heap.size + 1) #[.int .i64 m, .int .i64 e] 24 ∧ Blk w' (w.heap.size + 1 + 1) #[.int .i64 0, .int .i64 0] 24 ∧ Blk w' g #[.int .u64 xh, .int .u64 xl] 59 ∧ Below w.heap.size w w' ∧ w.heap.size + 1 + 1 < g)) ?hq ?hr
  case hr =>
    go_region_held3 (fun w' => w'.cell? ⟨w.heap.size, 0, none⟩ = some (.int .i64 n) ∧ w'.cell? ⟨w.heap.size, 1, none⟩ = some (.int .i64 d) ∧ w'.cell? ⟨w.heap.size + 1, 0, none⟩ = some (.int .i64 m) ∧ w'.cell? ⟨w.heap.size + 1, 1, none⟩ = some (.int .i64 e)) (go_keep)
      (first
        | (go_at_call 44; (with_reducible refine (l00Max_of n (IntKind.i64.wrap (-n)) _ un.out v2.1 v2.2).mono ?_); rintro r w3 ⟨rfl, rfl⟩)
        | (go_at_call 46; refine (T1.out _).mono ?_; rintro r w4 ⟨rfl, hb4⟩
           have A4 : Blk w4 w.heap.size #[.int .i64 n, .int .i64 d] 24 := by
             first
               | exact (((((Blk.new w _ _).alloc _).alloc _).alloc _).drew).later hb4
               | exact ((((Blk.new w _ _).alloc _).alloc _).drew).later hb4
           have C4 : Blk w4 (w.heap.size + 1) #[.int .i64 m, .int .i64 e] 24 := by
             first
               | exact ((((Blk.new' (by simp) _ _).alloc _).alloc _).drew).later hb4
               | exact (((Blk.new' (by simp) _ _).alloc _).drew).later hb4
           have E4 : Blk w4 (w.heap.size + 1 + 1) #[.int .i64 0, .int .i64 0] 24 := by
             first
               | exact (((Blk.new' (by simp) _ _).alloc _).drew).later hb4
               | exact ((Blk.new' (by simp) _ _).drew).later hb4
           have B4 : Below w.heap.size w w4 := by
             first
               | exact bw_call (bw_drew (bw_alloc (bw_alloc (bw_alloc (bw_alloc (bw_refl w) _) _) _) _)) hb4
               | exact bw_call (bw_drew (bw_alloc (bw_alloc (bw_alloc (bw_refl w) _) _) _)) hb4
           have s4 := hb4.size
           simp at s4
           have q40 := A4.cell 0 rfl; have q41 := C4.cell 0 rfl; have q42 := A4.cell 1 rfl; have q43 := C4.cell 1 rfl
           try (have D4 : Blk w4 (w.heap.size + 1 + 1 + 1) #[.int .u64 0, .int .u64 0] 59 := (Blk.drew (Blk.new' (by simp) _ _)).later hb4
                have g0 := D4.cell 0 rfl; have g1 := D4.cell 1 rfl; have e0 := D4.free 0; have e1 := D4.free 1)))
    all_goals first
      | exact ⟨rfl, _, rfl, Lib.hid ⟨A4.alloc _, C4.alloc _, E4.alloc _, Blk.new w4 _ _, bw_alloc B4 _, by omega⟩⟩
      | exact ⟨rfl, _, rfl, Lib.hid ⟨(A4.far (by simp <;> omega) _).far (by simp <;> omega) _, (C4.far (by simp <;> omega) _).far (by simp <;> omega) _, (E4.far (by simp <;> omega) _).far (by simp <;> omega) _, D4.set2 _ _, bw_setCell (bw_setCell B4 (by simp <;> omega) _) (by simp <;> omega) _, by omega⟩⟩
  case hq =>
    rintro ex a' w1 ⟨rfl, g, rfl, H1⟩
    clear t0 t1 t2 z0 z1 z2 y0 y1 y2
    have K1 := Lib.hid H1.out.1
    have K2 := Lib.hid H1.out.2.1
    have KR := Lib.hid H1.out.2.2.1
    have K3 := Lib.hid H1.out.2.2.2.1
    have K4 := Lib.hid H1.out.2.2.2.2.1
    have gg := H1.out.2.2.2.2.2
    have lg := K3.out.lt
    clear H1
    have q00 := K1.out.cell 0 rfl
    have q01 := K1.out.cell 1 rfl
    have q10 := K2.out.cell 0 rfl
    have q11 := K2.out.cell 1 rfl
    have t0 : w.heap.size < w1.heap.size := by omega
    have t1 : w.heap.size + 1 < w1.heap.size := by omega
    have z0 : ¬ w.heap.size = w1.heap.size := by omega
    have z1 : ¬ w.heap.size + 1 = w1.heap.size := by omega
    have y0 : ¬ w1.heap.size = w.heap.size := by omega
    have y1 : ¬ w1.heap.size = w.heap.size + 1 := by omega
    go_wp2_with fail
    refine Code.wp_mono (Q := fun ex a' w' => ex = Exit.normal ∧ ∃ h : Nat, a' = { tmps := #[Value.agg #[Value.int IntKind.i64 n, Value.int IntKind.i64 d], Value.agg #[Value.int IntKind.i64 m, Value.int IntKind.i64 e], Value.pointer (some { block := w.heap.size, off := 0 }), Value.pointer (some { block := w.heap.size + 1, off := 0 }), Value.pointer (some { block := w.heap.size + 1 + 1, off := 0 }), Value.bool false, Value.int IntKind.i64 c, Value.pointer (some { block := g, off := 0 }), Value.pointer (some { block := h, off := 0 }), undef, undef, undef, undef, undef, undef, undef, undef, undef, undef, undef, Value.pointer (some { block := w.heap.size, off := 1 }), Value.int IntKind.i64 d, Value.pointer (some { block := w.heap.size + 1, off := 1 }), Value.int IntKind.i64 e, Value.int IntKind.i64 c, Value.pointer (some { block := w.heap.size, off := 0 }), Value.int IntKind.i64 n, Value.pointer (some { block := w.heap.size, off := 0 }), Value.int IntKind.i64 n, Value.int IntKind.i64 (IntKind.i64.wrap (-n)), Value.int IntKind.i64 (absI n), Value.pointer (some { block := w.heap.size + 1, off := 1 }), Value.int IntKind.i64 e, Value.int IntKind.i64 c, Value.int IntKind.i64 (IntKind.i64.wrap (e.tdiv c)), Value.agg #[Value.int IntKind.u64 xh, Value.int IntKind.u64 xl], Value.pointer (some { block := w.heap.size + 1, off := 0 }), Value.int IntKind.i64 m, Value.pointer (some { block := w.heap.size + 1, off := 0 }), Value.int IntKind.i64 m, Value.int IntKind.i64 (IntKind.i64.wrap (-m)), Value.int IntKind.i64 (absI m), Value.pointer (some { block := w.heap.size, off := 1 }), Value.int IntKind.i64 d, Value.int IntKind.i64 c, Value.int IntKind.i64 (IntKind.i64.wrap (d.tdiv c)), Value.agg #[Value.int IntKind.u64 yh, Value.int IntKind.u64 yl], undef, undef, undef, undef, undef, undef, undef, undef, undef, undef, undef, undef, undef, undef, undef, undef, undef, undef, undef, undef, undef, undef, undef, undef, undef, undef, undef, undef, undef, undef, undef, undef, undef, undef, undef, undef, undef, undef, undef, undef, undef, undef, undef, undef, undef, undef, undef, undef, undef, undef, undef, undef, undef, undef, undef, undef, undef, undef, undef, undef, undef, undef, undef, undef, undef, undef, undef, undef, undef, undef, undef, undef, undef, undef, undef, undef], defers := [] } ∧ Hid (Blk w' w.heap.size #[.int .i64 n, .int .i64 d] 24 ∧ Blk w' (w.heap.size + 1) #[.int .i64 m, .int .i64 e] 24 ∧ Blk w' (w.heap.size + 1 + 1) #[.int .i64 0, .int .i64 0] 24 ∧ Blk w' g #[.int .u64 xh, .int .u64 xl] 59 ∧ Blk w' h #[.int .u64 yh, .int .u64 yl] 59 ∧ Below w.heap.size w w' ∧ w.heap.size + 1 + 1 < h)) ?hq2 ?hr2
    case hr2 =>
      go_region_held3 (fun w' => w'.cell? ⟨w.heap.size, 0, none⟩ = some (.int .i64 n) ∧ w'.cell? ⟨w.heap.size, 1, none⟩ = some (.int .i64 d) ∧ w'.cell? ⟨w.heap.size + 1, 0, none⟩ = some (.int .i64 m) ∧ w'.cell? ⟨w.heap.size + 1, 1, none⟩ = some (.int .i64 e)) (go_keep)
        (first
          | (go_at_call 44; (with_reducible refine (l00Max_of m (IntKind.i64.wrap (-m)) _ um.out u2.1 u2.2).mono ?_); rintro r w3 ⟨rfl, rfl⟩)
          | (go_at_call 46; refine (T2.out _).mono ?_; rintro r w4 ⟨rfl, hb4⟩
             have A4 : Blk w4 w.heap.size #[.int .i64 n, .int .i64 d] 24 := by
               first
                 | exact (K1.out.alloc _).drew.later hb4
                 | exact K1.out.drew.later hb4
             have C4 : Blk w4 (w.heap.size + 1) #[.int .i64 m, .int .i64 e] 24 := by
               first
                 | exact (K2.out.alloc _).drew.later hb4
                 | exact K2.out.drew.later hb4
             have E4 : Blk w4 (w.heap.size + 1 + 1) #[.int .i64 0, .int .i64 0] 24 := by
               first
                 | exact (KR.out.alloc _).drew.later hb4
                 | exact KR.out.drew.later hb4
             have X4 : Blk w4 g #[.int .u64 xh, .int .u64 xl] 59 := by
               first
                 | exact (K3.out.alloc _).drew.later hb4
                 | exact K3.out.drew.later hb4
             have B4 : Below w.heap.size w w4 := by
               first
                 | exact bw_call (bw_drew (bw_alloc K4.out _)) hb4
                 | exact bw_call (bw_drew K4.out) hb4
             have s4 := hb4.size
             try simp at s4
             have q40 := A4.cell 0 rfl; have q41 := C4.cell 0 rfl; have q42 := A4.cell 1 rfl; have q43 := C4.cell 1 rfl
             try (have D4 : Blk w4 w1.heap.size #[.int .u64 0, .int .u64 0] 59 := (Blk.drew (Blk.new' (by simp) _ _)).later hb4
                  have g0 := D4.cell 0 rfl; have g1 := D4.cell 1 rfl; have e0 := D4.free 0; have e1 := D4.free 1)))
      all_goals first
        | exact ⟨rfl, _, rfl, Lib.hid ⟨A4.alloc _, C4.alloc _, E4.alloc _, X4.alloc _, Blk.new w4 _ _, bw_alloc B4 _, by omega⟩⟩
        | exact ⟨rfl, _, rfl, Lib.hid ⟨(A4.far (by simp <;> omega) _).far (by simp <;> omega) _, (C4.far (by simp <;> omega) _).far (by simp <;> omega) _, (E4.far (by simp <;> omega) _).far (by simp <;> omega) _, (X4.far (by simp <;> omega) _).far (by simp <;> omega) _, D4.set2 _ _, bw_setCell (bw_setCell B4 (by simp <;> omega) _) (by simp <;> omega) _, by omega⟩⟩
    case hq2 =>
      rintro ex a' w2 ⟨rfl, h, rfl, H2⟩
      clear t0 t1 z0 z1 y0 y1 q00 q01 q10 q11 K1 K2 K3 K4 KR gg lg
      have L0 := Lib.hid H2.out.1
      have L1 := Lib.hid H2.out.2.1
      have LR := Lib.hid H2.out.2.2.1
      have LX := Lib.hid H2.out.2.2.2.1
      have LY := Lib.hid H2.out.2.2.2.2.1
      have LB := Lib.hid H2.out.2.2.2.2.2.1
      have hh := H2.out.2.2.2.2.2.2
      have lh := LY.out.lt
      have lx := LX.out.lt
      clear H2
      have q00 := L0.out.cell 0 rfl
      have q10 := L1.out.cell 0 rfl
      have qx0 := LX.out.cell 0 rfl
      have qx1 := LX.out.cell 1 rfl
      have qy0 := LY.out.cell 0 rfl
      have qy1 := LY.out.cell 1 rfl
      have t0 : w.heap.size < w2.heap.size := by omega
      have t1 : w.heap.size + 1 < w2.heap.size := by omega
      have t2 : g < w2.heap.size := by omega
      have t3 : h < w2.heap.size := by omega
      have z0 : ¬ w.heap.size = w2.heap.size := by omega
      have z1 : ¬ w.heap.size + 1 = w2.heap.size := by omega
      have z2 : ¬ g = w2.heap.size := by omega
      have z3 : ¬ h = w2.heap.size := by omega
      cases hss : (s1 == s2) with
      | true =>
        obtain ⟨T, hTT⟩ : ∃ T, Hid (X + Y = T) := ⟨_, Lib.hid rfl⟩
        obtain ⟨th, tl, hT⟩ := wd_ex T
        have bT : 0 ≤ T ∧ T < 42535295865117307932921825928971026432 := by rw [← hTT.out]; omega
        have HST : Hid (sg s1 T = n * e1 + m * d1) := Lib.hid (by
          rw [← hTT.out, ← hXX.out, ← hYY.out, ← sg_same hss, ← HSG1.out, ← HSG2.out])
        have PT : Hid (∀ W, Calls Try.prog 57 #[.agg #[.int .u64 xh, .int .u64 xl], .agg #[.int .u64 yh, .int .u64 yl]] W fun r w' => r = .returned (.agg #[.int .u64 th, .int .u64 tl]) ∧ Below W.heap.size W w') := Lib.hid (fun W => by rw [← HX.out, ← HY.out, ← hT, ← hTT.out]; exact l01Plus_any X Y W bx.1 (by omega) by1.1 (by omega))
        go_wp2_with fail
        refine (PT.out _).mono ?_
        rintro r w3 ⟨rfl, hb3⟩
        have M0 := Lib.hid ((L0.out.alloc (.cells #[.int .u64 0, .int .u64 0] 59)).later hb3)
        have M1 := Lib.hid ((L1.out.alloc (.cells #[.int .u64 0, .int .u64 0] 59)).later hb3)
        have MR := Lib.hid ((LR.out.alloc (.cells #[.int .u64 0, .int .u64 0] 59)).later hb3)
        have MT := Lib.hid ((Blk.new w2 #[.int .u64 0, .int .u64 0] 59).later hb3)
        have MB := Lib.hid (bw_call (bw_alloc LB.out (.cells #[.int .u64 0, .int .u64 0] 59)) hb3)
        have s3 := hb3.size
        simp at s3
        clear hb3 L0 L1 LR LX LY LB q00 q10 qx0 qx1 qy0 qy1 lh lx
        have qt0 := MT.out.cell 0 rfl
        have qt1 := MT.out.cell 1 rfl
        have ft0 := MT.out.free 0
        have ft1 := MT.out.free 1
        obtain ⟨b, hbb⟩ : ∃ b, Hid (gcdI c (T % c) = b) := ⟨_, Lib.hid rfl⟩
        have hfin := add_fin HV1.out HV2.out hc.out hd1.out he1.out HST.out bT.1 hbb.out
        obtain ⟨qv, hqv⟩ : ∃ q, Hid (T / b = q) := ⟨_, Lib.hid rfl⟩
        obtain ⟨E2, hE2⟩ : ∃ q, Hid (e / b = q) := ⟨_, Lib.hid rfl⟩
        obtain ⟨Mv, hMv⟩ : ∃ q, Hid (d1 * E2 = q) := ⟨_, Lib.hid rfl⟩
        rw [hqv.out, hE2.out, hMv.out] at hfin
        obtain ⟨f1, f2, f3, f4, f5, f6⟩ := hfin
        have bM := word_bd (x := d1) (y := E2) (m := 1000000000000000000) (n := 1000000000000000000) (by omega) (by omega) (by omega) (by omega)
        rw [hMv.out] at bM
        have HFB := Lib.hid f4
        have HFV := Lib.hid f5
        have HFO := Lib.hid f6
        have bq : 0 ≤ qv ∧ qv < 42535295865117307932921825928971026432 := by
          rw [← hqv.out]
          have h1 := Int.ediv_nonneg bT.1 (show 0 ≤ b by omega)
          have h2 := Int.ediv_le_self b bT.1
          omega
        have tm := Int.emod_nonneg T hcz2
        have tm2 := Int.emod_lt_of_pos T (show 0 < c by omega)
        obtain ⟨rs, hrs⟩ : ∃ q, Hid (T % c = q) := ⟨_, Lib.hid rfl⟩
        rw [hrs.out] at hbb tm tm2
        obtain ⟨uh, ul, hU⟩ := wd_ex (T / c)
        obtain ⟨qh, ql, hQ⟩ := wd_ex qv
        have P1 : Hid (∀ W, Calls Try.prog 59 #[.agg #[.int .u64 th, .int .u64 tl], .int .i64 c] W fun r w' => r = .returned (.tuple #[.agg #[.int .u64 uh, .int .u64 ul], .int .i64 rs]) ∧ Below W.heap.size W w') := Lib.hid (fun W => by rw [← hT, ← hU, ← hrs.out]; exact l01Split_any T c W bT.1 bT.2 (by omega) (by omega))
        have P2 : Hid (∀ W, Calls Try.prog 43 #[.int .i64 c, .int .i64 rs] W fun r w' => r = .returned (.int .i64 b) ∧ W = w') := Lib.hid (fun W => l01Gcd_of hbb (by omega) (by omega) (by omega) (by omega))
        obtain ⟨rs2, hrs2⟩ : ∃ q, Hid (T % b = q) := ⟨_, Lib.hid rfl⟩
        have P3 : Hid (∀ W, Calls Try.prog 59 #[.agg #[.int .u64 th, .int .u64 tl], .int .i64 b] W fun r w' => r = .returned (.tuple #[.agg #[.int .u64 qh, .int .u64 ql], .int .i64 rs2]) ∧ Below W.heap.size W w') := Lib.hid (fun W => by rw [← hT, ← hQ, ← hqv.out, ← hrs2.out]; exact l01Split_any T b W bT.1 bT.2 (by omega) (by omega))
        obtain ⟨nv, hnv⟩ : ∃ v, Hid ((if qv ≤ 1000000000000000000 then qv else 0) = v) := ⟨_, Lib.hid rfl⟩
        obtain ⟨nb, hnb⟩ : ∃ v, Hid (decide (qv ≤ 1000000000000000000) = v) := ⟨_, Lib.hid rfl⟩
        obtain ⟨mv, hmv⟩ : ∃ v, Hid ((if Mv ≤ 1000000000000000000 then Mv else 0) = v) := ⟨_, Lib.hid rfl⟩
        obtain ⟨mb, hmb⟩ : ∃ v, Hid (decide (Mv ≤ 1000000000000000000) = v) := ⟨_, Lib.hid rfl⟩
        have bnv : 0 ≤ nv ∧ nv ≤ 1000000000000000000 := by rw [← hnv.out]; split <;> omega
        have P4 : Hid (∀ W, Calls Try.prog 45 #[.agg #[.int .u64 qh, .int .u64 ql]] W fun r w' => r = .returned (.tuple #[.int .i64 nv, .bool nb]) ∧ Below W.heap.size W w') := Lib.hid (fun W => by rw [← hQ, ← hnv.out, ← hnb.out]; exact l01Small_any qv W bq.1 bq.2)
        obtain ⟨mh, ml, hM⟩ := wd_ex Mv
        have wE2 : Hid (IntKind.i64.wrap (e.tdiv b) = E2) := Lib.hid (by rw [Int.tdiv_eq_ediv_of_nonneg (by omega), hE2.out, IntKind.wrap_i64]; omega)
        have P5 : Hid (∀ W, Calls Try.prog 46 #[.int .i64 (IntKind.i64.wrap (d.tdiv c)), .int .i64 (IntKind.i64.wrap (e.tdiv b))] W fun r w' => r = .returned (.agg #[.int .u64 mh, .int .u64 ml]) ∧ Below W.heap.size W w') := Lib.hid (fun W => by rw [← hM, wE2.out, wd1.out, ← hMv.out]; exact l01Times_any d1 E2 W (by omega) (by omega) (by omega) (by omega))
        have P6 : Hid (∀ W, Calls Try.prog 45 #[.agg #[.int .u64 mh, .int .u64 ml]] W fun r w' => r = .returned (.tuple #[.int .i64 mv, .bool mb]) ∧ Below W.heap.size W w') := Lib.hid (fun W => by rw [← hM, ← hmv.out, ← hmb.out]; exact l01Small_any Mv W bM.1 (by omega))
        have hbz : (b == 0) = false := beq_eq_false_iff_ne.2 (by omega)
        have hbz2 : ¬ b = 0 := by omega
        clear hT hU hQ hM f1 f2 f3 f4 f5 f6 bM bq tm tm2
        go_wp2_with fail
        refine (P1.out _).mono ?_
        rintro r w5 ⟨rfl, hb5⟩
        have N0 := Lib.hid (((M0.out.far (by simp <;> omega) (.int .u64 th)).far (by simp <;> omega) (.int .u64 tl)).later hb5)
        have N1 := Lib.hid (((M1.out.far (by simp <;> omega) (.int .u64 th)).far (by simp <;> omega) (.int .u64 tl)).later hb5)
        have NR := Lib.hid (((MR.out.far (by simp <;> omega) (.int .u64 th)).far (by simp <;> omega) (.int .u64 tl)).later hb5)
        have NT := Lib.hid ((MT.out.set2 (.int .u64 th) (.int .u64 tl)).later hb5)
        have NB := Lib.hid (bw_call (bw_setCell (bw_setCell MB.out (by simp <;> omega) (.int .u64 th)) (by simp <;> omega) (.int .u64 tl)) hb5)
        have s5 := NT.out.lt
        clear hb5 M0 M1 MR MT MB qt0 qt1 ft0 ft1 s3 t2 t3 z0 z1 z2 z3
        have qt0 := NT.out.cell 0 rfl
        have qt1 := NT.out.cell 1 rfl
        go_wp2_with fail
        refine (P2.out _).mono ?_
        rintro r w6 ⟨rfl, rfl⟩
        have z0 : ¬ w2.heap.size = w5.heap.size := by omega
        have z1 : ¬ w5.heap.size = w2.heap.size := by omega
        have z2 : ¬ w.heap.size = w5.heap.size := by omega
        have z3 : ¬ w.heap.size + 1 = w5.heap.size := by omega
        have z4 : ¬ w5.heap.size = w.heap.size := by omega
        have z5 : ¬ w5.heap.size = w.heap.size + 1 := by omega
        clear t0 t1
        go_wp2_with fail
        refine (P3.out _).mono ?_
        rintro r w7 ⟨rfl, hb7⟩
        have O0 := Lib.hid ((N0.out.alloc (.cells #[.int .u64 uh, .int .u64 ul] 59)).later hb7)
        have O1 := Lib.hid ((N1.out.alloc (.cells #[.int .u64 uh, .int .u64 ul] 59)).later hb7)
        have OR := Lib.hid ((NR.out.alloc (.cells #[.int .u64 uh, .int .u64 ul] 59)).later hb7)
        have OB := Lib.hid (bw_call (bw_alloc NB.out (.cells #[.int .u64 uh, .int .u64 ul] 59)) hb7)
        have s7 := hb7.size
        simp at s7
        have t0 : w.heap.size + 1 + 1 < w7.heap.size := OR.out.lt
        clear hb7 N0 N1 NR NT NB qt0 qt1 z0 z1 z2 z3 z4 z5 s5 s7
        have z0 : ¬ w.heap.size = w7.heap.size := by omega
        have z1 : ¬ w.heap.size + 1 = w7.heap.size := by omega
        have z2 : ¬ w7.heap.size = w.heap.size := by omega
        have z3 : ¬ w7.heap.size = w.heap.size + 1 := by omega
        have t1 : w.heap.size < w7.heap.size := by omega
        have t2 : w.heap.size + 1 < w7.heap.size := by omega
        go_wp2_with fail
        refine (P4.out _).mono ?_
        rintro r w8 ⟨rfl, hb8⟩
        have U0 := Lib.hid ((O0.out.alloc (.cells #[.int .u64 qh, .int .u64 ql] 59)).later hb8)
        have U1 := Lib.hid ((O1.out.alloc (.cells #[.int .u64 qh, .int .u64 ql] 59)).later hb8)
        have UR := Lib.hid ((OR.out.alloc (.cells #[.int .u64 qh, .int .u64 ql] 59)).later hb8)
        have UB := Lib.hid (bw_call (bw_alloc OB.out (.cells #[.int .u64 qh, .int .u64 ql] 59)) hb8)
        clear hb8 O0 O1 OR OB t0 t1 t2 z0 z1 z2 z3
        have q00 := U0.out.cell 1 rfl
        have q10 := U1.out.cell 1 rfl
        go_wp2_with fail
        go_region_held3 (fun w' => w'.cell? ⟨w.heap.size, 1, none⟩ = some (.int .i64 d) ∧ w'.cell? ⟨w.heap.size + 1, 1, none⟩ = some (.int .i64 e)) (go_keep)
          (first
            | (go_at_call 46; refine (P5.out _).mono ?_; rintro r w9 ⟨rfl, hb9⟩
               have V0 := U0.out.drew.later hb9
               have V1 := U1.out.drew.later hb9
               have VR := UR.out.drew.later hb9
               have VB := bw_call (bw_drew UB.out) hb9
               have q90 := V0.cell 1 rfl; have q91 := V1.cell 1 rfl)
            | (go_at_call 45; refine (P6.out _).mono ?_; rintro r w10 ⟨rfl, hb10⟩
               have X0 := V0.later hb10
               have X1 := V1.later hb10
               have XR := VR.later hb10
               have XB := bw_call VB hb10
               have q92 := X0.cell 1 rfl; have q93 := X1.cell 1 rfl))
        clear hb9 hb10 V0 V1 VB U0 U1 UR UB VR q00 q10 q90 q91
        have g0 := XR.cell 0 rfl
        have g1 := XR.cell 1 rfl
        have e0 := XR.free 0
        have e2 := XR.free 1
        have HFIN : Hid (cmB n d m e (n * e + m * d) (d * e) = (nb && mb) ∧ (nb = true → mb = true → cmN n d m e (n * e + m * d) (d * e) = sg s1 nv ∧ cmD n d m e (n * e + m * d) (d * e) = mv ∧ (nv = 0 → mv = 1)) ∧ ((nb && mb) = false → cmN n d m e (n * e + m * d) (d * e) = 0 ∧ cmD n d m e (n * e + m * d) (d * e) = 0)) := Lib.hid (by
          have c3 : cmB n d m e (n * e + m * d) (d * e) = (nb && mb) := by rw [HFB.out, hnb.out, hmb.out]
          refine ⟨c3, fun h1 h2 => ?_, fun h => ?_⟩
          · have h3 : qv ≤ 1000000000000000000 := by
              have := hnb.out; rw [h1] at this; exact of_decide_eq_true this
            have h4 : Mv ≤ 1000000000000000000 := by
              have := hmb.out; rw [h2] at this; exact of_decide_eq_true this
            obtain ⟨k1, k2⟩ := HFV.out (by rw [c3, h1, h2]; rfl)
            have k3 : nv = qv := by rw [← hnv.out, if_pos h3]
            have k4 : mv = Mv := by rw [← hmv.out, if_pos h4]
            rw [k3, k4]
            exact ⟨k1, k2, HFO.out⟩
          · rw [h] at c3
            unfold cmN cmD
            rw [c3]
            exact ⟨rfl, rfl⟩)
        clear HFB HFV HFO P1 P2 P3 P4 P5 P6 hnv hnb hmv hmb hqv hE2 hMv
        have unv : IntKind.i64.wrap (-nv) = -nv := by rw [IntKind.wrap_i64]; omega
        cases hxb : nb with
        | false =>
          have F : Hid (cmB n d m e (n * e + m * d) (d * e) = false ∧ cmN n d m e (n * e + m * d) (d * e) = 0 ∧ cmD n d m e (n * e + m * d) (d * e) = 0) := Lib.hid ⟨by rw [HFIN.out.1, hxb]; rfl, HFIN.out.2.2 (by rw [hxb]; rfl)⟩
          clear HFIN
          go_wp2
          refine bodyPost_ret (v := .tuple #[.agg #[.int .i64 0, .int .i64 0], .bool false]) (by simp [results, Try.results36, go_sem, g0, g1]) rfl ⟨by rw [F.out.1, F.out.2.1, F.out.2.2], ?_⟩
          exact bw_setCell (bw_setCell XB (by simp <;> omega) _) (by simp <;> omega) _
        | true =>
          cases hyb : mb with
          | false =>
            have F : Hid (cmB n d m e (n * e + m * d) (d * e) = false ∧ cmN n d m e (n * e + m * d) (d * e) = 0 ∧ cmD n d m e (n * e + m * d) (d * e) = 0) := Lib.hid ⟨by rw [HFIN.out.1, hyb]; simp, HFIN.out.2.2 (by rw [hyb]; simp)⟩
            clear HFIN
            go_wp2
            refine bodyPost_ret (v := .tuple #[.agg #[.int .i64 0, .int .i64 0], .bool false]) (by simp [results, Try.results36, go_sem, g0, g1]) rfl ⟨by rw [F.out.1, F.out.2.1, F.out.2.2], ?_⟩
            exact bw_setCell (bw_setCell XB (by simp <;> omega) _) (by simp <;> omega) _
          | true =>
            have F0 := HFIN.out.2.1 hxb hyb
            have F : Hid (cmB n d m e (n * e + m * d) (d * e) = true ∧ cmN n d m e (n * e + m * d) (d * e) = sg s1 nv ∧ cmD n d m e (n * e + m * d) (d * e) = mv) := Lib.hid ⟨by rw [HFIN.out.1, hxb, hyb]; rfl, F0.1, F0.2.1⟩
            have Fo := Lib.hid F0.2.2
            clear HFIN F0
            by_cases hz : nv = 0
            · subst hz
              have hm1 := Fo.out rfl
              have F' : Hid (cmB n d m e (n * e + m * d) (d * e) = true ∧ cmN n d m e (n * e + m * d) (d * e) = 0 ∧ cmD n d m e (n * e + m * d) (d * e) = 1) := Lib.hid ⟨F.out.1, by rw [F.out.2.1]; unfold sg; split <;> rfl, by rw [F.out.2.2, hm1]⟩
              clear F Fo
              have u0 : IntKind.i64.wrap 0 = 0 := by rw [IntKind.wrap_i64]; omega
              cases hms : s1 <;> go_wp2 <;> refine bodyPost_ret (v := .tuple #[.agg #[.int .i64 0, .int .i64 1], .bool true]) (by simp [results, Try.results36, go_sem, g0, g1]) rfl ⟨by rw [F'.out.1, F'.out.2.1, F'.out.2.2], ?_⟩ <;> exact bw_setCell (bw_setCell XB (by simp <;> omega) _) (by simp <;> omega) _
            · have z1 : (nv == 0) = false := beq_eq_false_iff_ne.2 hz
              have z2 : ¬ -nv = 0 := by omega
              have z3 : (-nv == 0) = false := beq_eq_false_iff_ne.2 z2
              cases hms : s1 with
              | true =>
                have F' : Hid (cmN n d m e (n * e + m * d) (d * e) = -nv) := Lib.hid (by rw [F.out.2.1, hms]; rfl)
                go_wp2
                refine bodyPost_ret (v := .tuple #[.agg #[.int .i64 (-nv), .int .i64 mv], .bool true]) (by simp [results, Try.results36, go_sem, g0, g1]) rfl ⟨by rw [F.out.1, F'.out, F.out.2.2], ?_⟩
                exact bw_setCell (bw_setCell XB (by simp <;> omega) _) (by simp <;> omega) _
              | false =>
                have F' : Hid (cmN n d m e (n * e + m * d) (d * e) = nv) := Lib.hid (by rw [F.out.2.1, hms]; rfl)
                go_wp2
                refine bodyPost_ret (v := .tuple #[.agg #[.int .i64 nv, .int .i64 mv], .bool true]) (by simp [results, Try.results36, go_sem, g0, g1]) rfl ⟨by rw [F.out.1, F'.out, F.out.2.2], ?_⟩
                exact bw_setCell (bw_setCell XB (by simp <;> omega) _) (by simp <;> omega) _
      | false =>
        have y1 : ¬ w2.heap.size = w.heap.size + 1 := by omega
        by_cases hlt : X < Y
        · have hlb : decide (X < Y) = true := decide_eq_true hlt
          have PL : Hid (∀ W, Calls Try.prog 50 #[.agg #[.int .u64 xh, .int .u64 xl], .agg #[.int .u64 yh, .int .u64 yl]] W fun r w' => r = .returned (.bool true) ∧ Below W.heap.size W w') := Lib.hid (fun W => by rw [← HX.out, ← HY.out, ← hlb]; exact l01Less_any X Y W bx.1 (by omega) by1.1 (by omega))
          obtain ⟨T, hTT⟩ : ∃ T, Hid (Y - X = T) := ⟨_, Lib.hid rfl⟩
          obtain ⟨th, tl, hT⟩ := wd_ex T
          have bT : 0 ≤ T ∧ T < 42535295865117307932921825928971026432 := by rw [← hTT.out]; omega
          have HST : Hid (sg s2 T = n * e1 + m * d1) := Lib.hid (by
            rw [← hTT.out, ← hXX.out, ← hYY.out, ← sg_diff2 hss, ← HSG1.out, ← HSG2.out])
          have PT : Hid (∀ W, Calls Try.prog 58 #[.agg #[.int .u64 yh, .int .u64 yl], .agg #[.int .u64 xh, .int .u64 xl]] W fun r w' => r = .returned (.agg #[.int .u64 th, .int .u64 tl]) ∧ Below W.heap.size W w') := Lib.hid (fun W => by rw [← HX.out, ← HY.out, ← hT, ← hTT.out]; exact l01Minus_any Y X W (by omega) (by omega) (by omega) (by omega))
          clear hlb hlt
          go_wp2_with fail
          refine (PL.out _).mono ?_
          rintro r wa ⟨rfl, hba⟩
          have J0 := Lib.hid ((L0.out.alloc (.cells #[.int .u64 0, .int .u64 0] 59)).later hba)
          have J1 := Lib.hid ((L1.out.alloc (.cells #[.int .u64 0, .int .u64 0] 59)).later hba)
          have JR := Lib.hid ((LR.out.alloc (.cells #[.int .u64 0, .int .u64 0] 59)).later hba)
          have JX := Lib.hid ((LX.out.alloc (.cells #[.int .u64 0, .int .u64 0] 59)).later hba)
          have JY := Lib.hid ((LY.out.alloc (.cells #[.int .u64 0, .int .u64 0] 59)).later hba)
          have JT := Lib.hid ((Blk.new w2 #[.int .u64 0, .int .u64 0] 59).later hba)
          have JB := Lib.hid (bw_call (bw_alloc LB.out (.cells #[.int .u64 0, .int .u64 0] 59)) hba)
          clear hba L0 L1 LR LX LY LB q00 q10 qx0 qx1 qy0 qy1
          have qx0 := JX.out.cell 0 rfl
          have qx1 := JX.out.cell 1 rfl
          have qy0 := JY.out.cell 0 rfl
          have qy1 := JY.out.cell 1 rfl
          go_wp2_with fail
          refine (PT.out _).mono ?_
          rintro r w3 ⟨rfl, hb3⟩
          have M0 := Lib.hid (J0.out.later hb3)
          have M1 := Lib.hid (J1.out.later hb3)
          have MR := Lib.hid (JR.out.later hb3)
          have MT := Lib.hid (JT.out.later hb3)
          have MB := Lib.hid (bw_call JB.out hb3)
          have s3 := MT.out.lt
          clear hb3 J0 J1 JR JX JY JT JB qx0 qx1 qy0 qy1 lh lx
          have q10 := M1.out.cell 0 rfl
          have qt0 := MT.out.cell 0 rfl
          have qt1 := MT.out.cell 1 rfl
          have ft0 := MT.out.free 0
          have ft1 := MT.out.free 1
          obtain ⟨b, hbb⟩ : ∃ b, Hid (gcdI c (T % c) = b) := ⟨_, Lib.hid rfl⟩
          have hfin := add_fin HV1.out HV2.out hc.out hd1.out he1.out HST.out bT.1 hbb.out
          obtain ⟨qv, hqv⟩ : ∃ q, Hid (T / b = q) := ⟨_, Lib.hid rfl⟩
          obtain ⟨E2, hE2⟩ : ∃ q, Hid (e / b = q) := ⟨_, Lib.hid rfl⟩
          obtain ⟨Mv, hMv⟩ : ∃ q, Hid (d1 * E2 = q) := ⟨_, Lib.hid rfl⟩
          rw [hqv.out, hE2.out, hMv.out] at hfin
          obtain ⟨f1, f2, f3, f4, f5, f6⟩ := hfin
          have bM := word_bd (x := d1) (y := E2) (m := 1000000000000000000) (n := 1000000000000000000) (by omega) (by omega) (by omega) (by omega)
          rw [hMv.out] at bM
          have HFB := Lib.hid f4
          have HFV := Lib.hid f5
          have HFO := Lib.hid f6
          have bq : 0 ≤ qv ∧ qv < 42535295865117307932921825928971026432 := by
            rw [← hqv.out]
            have h1 := Int.ediv_nonneg bT.1 (show 0 ≤ b by omega)
            have h2 := Int.ediv_le_self b bT.1
            omega
          have tm := Int.emod_nonneg T hcz2
          have tm2 := Int.emod_lt_of_pos T (show 0 < c by omega)
          obtain ⟨rs, hrs⟩ : ∃ q, Hid (T % c = q) := ⟨_, Lib.hid rfl⟩
          rw [hrs.out] at hbb tm tm2
          obtain ⟨uh, ul, hU⟩ := wd_ex (T / c)
          obtain ⟨qh, ql, hQ⟩ := wd_ex qv
          have P1 : Hid (∀ W, Calls Try.prog 59 #[.agg #[.int .u64 th, .int .u64 tl], .int .i64 c] W fun r w' => r = .returned (.tuple #[.agg #[.int .u64 uh, .int .u64 ul], .int .i64 rs]) ∧ Below W.heap.size W w') := Lib.hid (fun W => by rw [← hT, ← hU, ← hrs.out]; exact l01Split_any T c W bT.1 bT.2 (by omega) (by omega))
          have P2 : Hid (∀ W, Calls Try.prog 43 #[.int .i64 c, .int .i64 rs] W fun r w' => r = .returned (.int .i64 b) ∧ W = w') := Lib.hid (fun W => l01Gcd_of hbb (by omega) (by omega) (by omega) (by omega))
          obtain ⟨rs2, hrs2⟩ : ∃ q, Hid (T % b = q) := ⟨_, Lib.hid rfl⟩
          have P3 : Hid (∀ W, Calls Try.prog 59 #[.agg #[.int .u64 th, .int .u64 tl], .int .i64 b] W fun r w' => r = .returned (.tuple #[.agg #[.int .u64 qh, .int .u64 ql], .int .i64 rs2]) ∧ Below W.heap.size W w') := Lib.hid (fun W => by rw [← hT, ← hQ, ← hqv.out, ← hrs2.out]; exact l01Split_any T b W bT.1 bT.2 (by omega) (by omega))
          obtain ⟨nv, hnv⟩ : ∃ v, Hid ((if qv ≤ 1000000000000000000 then qv else 0) = v) := ⟨_, Lib.hid rfl⟩
          obtain ⟨nb, hnb⟩ : ∃ v, Hid (decide (qv ≤ 1000000000000000000) = v) := ⟨_, Lib.hid rfl⟩
          obtain ⟨mv, hmv⟩ : ∃ v, Hid ((if Mv ≤ 1000000000000000000 then Mv else 0) = v) := ⟨_, Lib.hid rfl⟩
          obtain ⟨mb, hmb⟩ : ∃ v, Hid (decide (Mv ≤ 1000000000000000000) = v) := ⟨_, Lib.hid rfl⟩
          have bnv : 0 ≤ nv ∧ nv ≤ 1000000000000000000 := by rw [← hnv.out]; split <;> omega
          have P4 : Hid (∀ W, Calls Try.prog 45 #[.agg #[.int .u64 qh, .int .u64 ql]] W fun r w' => r = .returned (.tuple #[.int .i64 nv, .bool nb]) ∧ Below W.heap.size W w') := Lib.hid (fun W => by rw [← hQ, ← hnv.out, ← hnb.out]; exact l01Small_any qv W bq.1 bq.2)
          obtain ⟨mh, ml, hM⟩ := wd_ex Mv
          have wE2 : Hid (IntKind.i64.wrap (e.tdiv b) = E2) := Lib.hid (by rw [Int.tdiv_eq_ediv_of_nonneg (by omega), hE2.out, IntKind.wrap_i64]; omega)
          have P5 : Hid (∀ W, Calls Try.prog 46 #[.int .i64 (IntKind.i64.wrap (d.tdiv c)), .int .i64 (IntKind.i64.wrap (e.tdiv b))] W fun r w' => r = .returned (.agg #[.int .u64 mh, .int .u64 ml]) ∧ Below W.heap.size W w') := Lib.hid (fun W => by rw [← hM, wE2.out, wd1.out, ← hMv.out]; exact l01Times_any d1 E2 W (by omega) (by omega) (by omega) (by omega))
          have P6 : Hid (∀ W, Calls Try.prog 45 #[.agg #[.int .u64 mh, .int .u64 ml]] W fun r w' => r = .returned (.tuple #[.int .i64 mv, .bool mb]) ∧ Below W.heap.size W w') := Lib.hid (fun W => by rw [← hM, ← hmv.out, ← hmb.out]; exact l01Small_any Mv W bM.1 (by omega))
          have hbz : (b == 0) = false := beq_eq_false_iff_ne.2 (by omega)
          have hbz2 : ¬ b = 0 := by omega
          clear hT hU hQ hM f1 f2 f3 f4 f5 f6 bM bq tm tm2
          go_wp2_with fail
          refine (P1.out _).mono ?_
          rintro r w5 ⟨rfl, hb5⟩
          have N0 := Lib.hid (((M0.out.far (by simp <;> omega) (.int .u64 th)).far (by simp <;> omega) (.int .u64 tl)).later hb5)
          have N1 := Lib.hid (((M1.out.far (by simp <;> omega) (.int .u64 th)).far (by simp <;> omega) (.int .u64 tl)).later hb5)
          have NR := Lib.hid (((MR.out.far (by simp <;> omega) (.int .u64 th)).far (by simp <;> omega) (.int .u64 tl)).later hb5)
          have NT := Lib.hid ((MT.out.set2 (.int .u64 th) (.int .u64 tl)).later hb5)
          have NB := Lib.hid (bw_call (bw_setCell (bw_setCell MB.out (by simp <;> omega) (.int .u64 th)) (by simp <;> omega) (.int .u64 tl)) hb5)
          have s5 := NT.out.lt
          clear hb5 M0 M1 MR MT MB qt0 qt1 ft0 ft1 s3 t2 t3 z0 z1 z2 z3
          have qt0 := NT.out.cell 0 rfl
          have qt1 := NT.out.cell 1 rfl
          go_wp2_with fail
          refine (P2.out _).mono ?_
          rintro r w6 ⟨rfl, rfl⟩
          have z0 : ¬ w2.heap.size = w5.heap.size := by omega
          have z1 : ¬ w5.heap.size = w2.heap.size := by omega
          have z2 : ¬ w.heap.size = w5.heap.size := by omega
          have z3 : ¬ w.heap.size + 1 = w5.heap.size := by omega
          have z4 : ¬ w5.heap.size = w.heap.size := by omega
          have z5 : ¬ w5.heap.size = w.heap.size + 1 := by omega
          clear t0 t1
          go_wp2_with fail
          refine (P3.out _).mono ?_
          rintro r w7 ⟨rfl, hb7⟩
          have O0 := Lib.hid ((N0.out.alloc (.cells #[.int .u64 uh, .int .u64 ul] 59)).later hb7)
          have O1 := Lib.hid ((N1.out.alloc (.cells #[.int .u64 uh, .int .u64 ul] 59)).later hb7)
          have OR := Lib.hid ((NR.out.alloc (.cells #[.int .u64 uh, .int .u64 ul] 59)).later hb7)
          have OB := Lib.hid (bw_call (bw_alloc NB.out (.cells #[.int .u64 uh, .int .u64 ul] 59)) hb7)
          have s7 := hb7.size
          simp at s7
          have t0 : w.heap.size + 1 + 1 < w7.heap.size := OR.out.lt
          clear hb7 N0 N1 NR NT NB qt0 qt1 z0 z1 z2 z3 z4 z5 s5 s7
          have z0 : ¬ w.heap.size = w7.heap.size := by omega
          have z1 : ¬ w.heap.size + 1 = w7.heap.size := by omega
          have z2 : ¬ w7.heap.size = w.heap.size := by omega
          have z3 : ¬ w7.heap.size = w.heap.size + 1 := by omega
          have t1 : w.heap.size < w7.heap.size := by omega
          have t2 : w.heap.size + 1 < w7.heap.size := by omega
          go_wp2_with fail
          refine (P4.out _).mono ?_
          rintro r w8 ⟨rfl, hb8⟩
          have U0 := Lib.hid ((O0.out.alloc (.cells #[.int .u64 qh, .int .u64 ql] 59)).later hb8)
          have U1 := Lib.hid ((O1.out.alloc (.cells #[.int .u64 qh, .int .u64 ql] 59)).later hb8)
          have UR := Lib.hid ((OR.out.alloc (.cells #[.int .u64 qh, .int .u64 ql] 59)).later hb8)
          have UB := Lib.hid (bw_call (bw_alloc OB.out (.cells #[.int .u64 qh, .int .u64 ql] 59)) hb8)
          clear hb8 O0 O1 OR OB t0 t1 t2 z0 z1 z2 z3
          have q00 := U0.out.cell 1 rfl
          have q10 := U1.out.cell 1 rfl
          go_wp2_with fail
          go_region_held3 (fun w' => w'.cell? ⟨w.heap.size, 1, none⟩ = some (.int .i64 d) ∧ w'.cell? ⟨w.heap.size + 1, 1, none⟩ = some (.int .i64 e)) (go_keep)
            (first
              | (go_at_call 46; refine (P5.out _).mono ?_; rintro r w9 ⟨rfl, hb9⟩
                 have V0 := U0.out.drew.later hb9
                 have V1 := U1.out.drew.later hb9
                 have VR := UR.out.drew.later hb9
                 have VB := bw_call (bw_drew UB.out) hb9
                 have q90 := V0.cell 1 rfl; have q91 := V1.cell 1 rfl)
              | (go_at_call 45; refine (P6.out _).mono ?_; rintro r w10 ⟨rfl, hb10⟩
                 have X0 := V0.later hb10
                 have X1 := V1.later hb10
                 have XR := VR.later hb10
                 have XB := bw_call VB hb10
                 have q92 := X0.cell 1 rfl; have q93 := X1.cell 1 rfl))
          clear hb9 hb10 V0 V1 VB U0 U1 UR UB VR q00 q10 q90 q91
          have g0 := XR.cell 0 rfl
          have g1 := XR.cell 1 rfl
          have e0 := XR.free 0
          have e2 := XR.free 1
          have HFIN : Hid (cmB n d m e (n * e + m * d) (d * e) = (nb && mb) ∧ (nb = true → mb = true → cmN n d m e (n * e + m * d) (d * e) = sg s2 nv ∧ cmD n d m e (n * e + m * d) (d * e) = mv ∧ (nv = 0 → mv = 1)) ∧ ((nb && mb) = false → cmN n d m e (n * e + m * d) (d * e) = 0 ∧ cmD n d m e (n * e + m * d) (d * e) = 0)) := Lib.hid (by
            have c3 : cmB n d m e (n * e + m * d) (d * e) = (nb && mb) := by rw [HFB.out, hnb.out, hmb.out]
            refine ⟨c3, fun h1 h2 => ?_, fun h => ?_⟩
            · have h3 : qv ≤ 1000000000000000000 := by
                have := hnb.out; rw [h1] at this; exact of_decide_eq_true this
              have h4 : Mv ≤ 1000000000000000000 := by
                have := hmb.out; rw [h2] at this; exact of_decide_eq_true this
              obtain ⟨k1, k2⟩ := HFV.out (by rw [c3, h1, h2]; rfl)
              have k3 : nv = qv := by rw [← hnv.out, if_pos h3]
              have k4 : mv = Mv := by rw [← hmv.out, if_pos h4]
              rw [k3, k4]
              exact ⟨k1, k2, HFO.out⟩
            · rw [h] at c3
              unfold cmN cmD
              rw [c3]
              exact ⟨rfl, rfl⟩)
          clear HFB HFV HFO P1 P2 P3 P4 P5 P6 hnv hnb hmv hmb hqv hE2 hMv
          have unv : IntKind.i64.wrap (-nv) = -nv := by rw [IntKind.wrap_i64]; omega
          cases hxb : nb with
          | false =>
            have F : Hid (cmB n d m e (n * e + m * d) (d * e) = false ∧ cmN n d m e (n * e + m * d) (d * e) = 0 ∧ cmD n d m e (n * e + m * d) (d * e) = 0) := Lib.hid ⟨by rw [HFIN.out.1, hxb]; rfl, HFIN.out.2.2 (by rw [hxb]; rfl)⟩
            clear HFIN
            go_wp2
            refine bodyPost_ret (v := .tuple #[.agg #[.int .i64 0, .int .i64 0], .bool false]) (by simp [results, Try.results36, go_sem, g0, g1]) rfl ⟨by rw [F.out.1, F.out.2.1, F.out.2.2], ?_⟩
            exact bw_setCell (bw_setCell XB (by simp <;> omega) _) (by simp <;> omega) _
          | true =>
            cases hyb : mb with
            | false =>
              have F : Hid (cmB n d m e (n * e + m * d) (d * e) = false ∧ cmN n d m e (n * e + m * d) (d * e) = 0 ∧ cmD n d m e (n * e + m * d) (d * e) = 0) := Lib.hid ⟨by rw [HFIN.out.1, hyb]; simp, HFIN.out.2.2 (by rw [hyb]; simp)⟩
              clear HFIN
              go_wp2
              refine bodyPost_ret (v := .tuple #[.agg #[.int .i64 0, .int .i64 0], .bool false]) (by simp [results, Try.results36, go_sem, g0, g1]) rfl ⟨by rw [F.out.1, F.out.2.1, F.out.2.2], ?_⟩
              exact bw_setCell (bw_setCell XB (by simp <;> omega) _) (by simp <;> omega) _
            | true =>
              have F0 := HFIN.out.2.1 hxb hyb
              have F : Hid (cmB n d m e (n * e + m * d) (d * e) = true ∧ cmN n d m e (n * e + m * d) (d * e) = sg s2 nv ∧ cmD n d m e (n * e + m * d) (d * e) = mv) := Lib.hid ⟨by rw [HFIN.out.1, hxb, hyb]; rfl, F0.1, F0.2.1⟩
              have Fo := Lib.hid F0.2.2
              clear HFIN F0
              by_cases hz : nv = 0
              · subst hz
                have hm1 := Fo.out rfl
                have F' : Hid (cmB n d m e (n * e + m * d) (d * e) = true ∧ cmN n d m e (n * e + m * d) (d * e) = 0 ∧ cmD n d m e (n * e + m * d) (d * e) = 1) := Lib.hid ⟨F.out.1, by rw [F.out.2.1]; unfold sg; split <;> rfl, by rw [F.out.2.2, hm1]⟩
                clear F Fo
                have u0 : IntKind.i64.wrap 0 = 0 := by rw [IntKind.wrap_i64]; omega
                cases hms : s2 <;> go_wp2 <;> refine bodyPost_ret (v := .tuple #[.agg #[.int .i64 0, .int .i64 1], .bool true]) (by simp [results, Try.results36, go_sem, g0, g1]) rfl ⟨by rw [F'.out.1, F'.out.2.1, F'.out.2.2], ?_⟩ <;> exact bw_setCell (bw_setCell XB (by simp <;> omega) _) (by simp <;> omega) _
              · have z1 : (nv == 0) = false := beq_eq_false_iff_ne.2 hz
                have z2 : ¬ -nv = 0 := by omega
                have z3 : (-nv == 0) = false := beq_eq_false_iff_ne.2 z2
                cases hms : s2 with
                | true =>
                  have F' : Hid (cmN n d m e (n * e + m * d) (d * e) = -nv) := Lib.hid (by rw [F.out.2.1, hms]; rfl)
                  go_wp2
                  refine bodyPost_ret (v := .tuple #[.agg #[.int .i64 (-nv), .int .i64 mv], .bool true]) (by simp [results, Try.results36, go_sem, g0, g1]) rfl ⟨by rw [F.out.1, F'.out, F.out.2.2], ?_⟩
                  exact bw_setCell (bw_setCell XB (by simp <;> omega) _) (by simp <;> omega) _
                | false =>
                  have F' : Hid (cmN n d m e (n * e + m * d) (d * e) = nv) := Lib.hid (by rw [F.out.2.1, hms]; rfl)
                  go_wp2
                  refine bodyPost_ret (v := .tuple #[.agg #[.int .i64 nv, .int .i64 mv], .bool true]) (by simp [results, Try.results36, go_sem, g0, g1]) rfl ⟨by rw [F.out.1, F'.out, F.out.2.2], ?_⟩
                  exact bw_setCell (bw_setCell XB (by simp <;> omega) _) (by simp <;> omega) _
        · have hlb : decide (X < Y) = false := decide_eq_false hlt
          have PL : Hid (∀ W, Calls Try.prog 50 #[.agg #[.int .u64 xh, .int .u64 xl], .agg #[.int .u64 yh, .int .u64 yl]] W fun r w' => r = .returned (.bool false) ∧ Below W.heap.size W w') := Lib.hid (fun W => by rw [← HX.out, ← HY.out, ← hlb]; exact l01Less_any X Y W bx.1 (by omega) by1.1 (by omega))
          obtain ⟨T, hTT⟩ : ∃ T, Hid (X - Y = T) := ⟨_, Lib.hid rfl⟩
          obtain ⟨th, tl, hT⟩ := wd_ex T
          have bT : 0 ≤ T ∧ T < 42535295865117307932921825928971026432 := by rw [← hTT.out]; omega
          have HST : Hid (sg s1 T = n * e1 + m * d1) := Lib.hid (by
            rw [← hTT.out, ← hXX.out, ← hYY.out, ← sg_diff1 hss, ← HSG1.out, ← HSG2.out])
          have PT : Hid (∀ W, Calls Try.prog 58 #[.agg #[.int .u64 xh, .int .u64 xl], .agg #[.int .u64 yh, .int .u64 yl]] W fun r w' => r = .returned (.agg #[.int .u64 th, .int .u64 tl]) ∧ Below W.heap.size W w') := Lib.hid (fun W => by rw [← HX.out, ← HY.out, ← hT, ← hTT.out]; exact l01Minus_any X Y W (by omega) (by omega) (by omega) (by omega))
          clear hlb hlt
          go_wp2_with fail
          refine (PL.out _).mono ?_
          rintro r wa ⟨rfl, hba⟩
          have J0 := Lib.hid ((L0.out.alloc (.cells #[.int .u64 0, .int .u64 0] 59)).later hba)
          have J1 := Lib.hid ((L1.out.alloc (.cells #[.int .u64 0, .int .u64 0] 59)).later hba)
          have JR := Lib.hid ((LR.out.alloc (.cells #[.int .u64 0, .int .u64 0] 59)).later hba)
          have JX := Lib.hid ((LX.out.alloc (.cells #[.int .u64 0, .int .u64 0] 59)).later hba)
          have JY := Lib.hid ((LY.out.alloc (.cells #[.int .u64 0, .int .u64 0] 59)).later hba)
          have JT := Lib.hid ((Blk.new w2 #[.int .u64 0, .int .u64 0] 59).later hba)
          have JB := Lib.hid (bw_call (bw_alloc LB.out (.cells #[.int .u64 0, .int .u64 0] 59)) hba)
          clear hba L0 L1 LR LX LY LB q00 q10 qx0 qx1 qy0 qy1
          have qx0 := JX.out.cell 0 rfl
          have qx1 := JX.out.cell 1 rfl
          have qy0 := JY.out.cell 0 rfl
          have qy1 := JY.out.cell 1 rfl
          go_wp2_with fail
          refine (PT.out _).mono ?_
          rintro r w3 ⟨rfl, hb3⟩
          have M0 := Lib.hid (J0.out.later hb3)
          have M1 := Lib.hid (J1.out.later hb3)
          have MR := Lib.hid (JR.out.later hb3)
          have MT := Lib.hid (JT.out.later hb3)
          have MB := Lib.hid (bw_call JB.out hb3)
          have s3 := MT.out.lt
          clear hb3 J0 J1 JR JX JY JT JB qx0 qx1 qy0 qy1 lh lx
          have q10 := M1.out.cell 0 rfl
          have qt0 := MT.out.cell 0 rfl
          have qt1 := MT.out.cell 1 rfl
          have ft0 := MT.out.free 0
          have ft1 := MT.out.free 1
          obtain ⟨b, hbb⟩ : ∃ b, Hid (gcdI c (T % c) = b) := ⟨_, Lib.hid rfl⟩
          have hfin := add_fin HV1.out HV2.out hc.out hd1.out he1.out HST.out bT.1 hbb.out
          obtain ⟨qv, hqv⟩ : ∃ q, Hid (T / b = q) := ⟨_, Lib.hid rfl⟩
          obtain ⟨E2, hE2⟩ : ∃ q, Hid (e / b = q) := ⟨_, Lib.hid rfl⟩
          obtain ⟨Mv, hMv⟩ : ∃ q, Hid (d1 * E2 = q) := ⟨_, Lib.hid rfl⟩
          rw [hqv.out, hE2.out, hMv.out] at hfin
          obtain ⟨f1, f2, f3, f4, f5, f6⟩ := hfin
          have bM := word_bd (x := d1) (y := E2) (m := 1000000000000000000) (n := 1000000000000000000) (by omega) (by omega) (by omega) (by omega)
          rw [hMv.out] at bM
          have HFB := Lib.hid f4
          have HFV := Lib.hid f5
          have HFO := Lib.hid f6
          have bq : 0 ≤ qv ∧ qv < 42535295865117307932921825928971026432 := by
            rw [← hqv.out]
            have h1 := Int.ediv_nonneg bT.1 (show 0 ≤ b by omega)
            have h2 := Int.ediv_le_self b bT.1
            omega
          have tm := Int.emod_nonneg T hcz2
          have tm2 := Int.emod_lt_of_pos T (show 0 < c by omega)
          obtain ⟨rs, hrs⟩ : ∃ q, Hid (T % c = q) := ⟨_, Lib.hid rfl⟩
          rw [hrs.out] at hbb tm tm2
          obtain ⟨uh, ul, hU⟩ := wd_ex (T / c)
          obtain ⟨qh, ql, hQ⟩ := wd_ex qv
          have P1 : Hid (∀ W, Calls Try.prog 59 #[.agg #[.int .u64 th, .int .u64 tl], .int .i64 c] W fun r w' => r = .returned (.tuple #[.agg #[.int .u64 uh, .int .u64 ul], .int .i64 rs]) ∧ Below W.heap.size W w') := Lib.hid (fun W => by rw [← hT, ← hU, ← hrs.out]; exact l01Split_any T c W bT.1 bT.2 (by omega) (by omega))
          have P2 : Hid (∀ W, Calls Try.prog 43 #[.int .i64 c, .int .i64 rs] W fun r w' => r = .returned (.int .i64 b) ∧ W = w') := Lib.hid (fun W => l01Gcd_of hbb (by omega) (by omega) (by omega) (by omega))
          obtain ⟨rs2, hrs2⟩ : ∃ q, Hid (T % b = q) := ⟨_, Lib.hid rfl⟩
          have P3 : Hid (∀ W, Calls Try.prog 59 #[.agg #[.int .u64 th, .int .u64 tl], .int .i64 b] W fun r w' => r = .returned (.tuple #[.agg #[.int .u64 qh, .int .u64 ql], .int .i64 rs2]) ∧ Below W.heap.size W w') := Lib.hid (fun W => by rw [← hT, ← hQ, ← hqv.out, ← hrs2.out]; exact l01Split_any T b W bT.1 bT.2 (by omega) (by omega))
          obtain ⟨nv, hnv⟩ : ∃ v, Hid ((if qv ≤ 1000000000000000000 then qv else 0) = v) := ⟨_, Lib.hid rfl⟩
          obtain ⟨nb, hnb⟩ : ∃ v, Hid (decide (qv ≤ 1000000000000000000) = v) := ⟨_, Lib.hid rfl⟩
          obtain ⟨mv, hmv⟩ : ∃ v, Hid ((if Mv ≤ 1000000000000000000 then Mv else 0) = v) := ⟨_, Lib.hid rfl⟩
          obtain ⟨mb, hmb⟩ : ∃ v, Hid (decide (Mv ≤ 1000000000000000000) = v) := ⟨_, Lib.hid rfl⟩
          have bnv : 0 ≤ nv ∧ nv ≤ 1000000000000000000 := by rw [← hnv.out]; split <;> omega
          have P4 : Hid (∀ W, Calls Try.prog 45 #[.agg #[.int .u64 qh, .int .u64 ql]] W fun r w' => r = .returned (.tuple #[.int .i64 nv, .bool nb]) ∧ Below W.heap.size W w') := Lib.hid (fun W => by rw [← hQ, ← hnv.out, ← hnb.out]; exact l01Small_any qv W bq.1 bq.2)
          obtain ⟨mh, ml, hM⟩ := wd_ex Mv
          have wE2 : Hid (IntKind.i64.wrap (e.tdiv b) = E2) := Lib.hid (by rw [Int.tdiv_eq_ediv_of_nonneg (by omega), hE2.out, IntKind.wrap_i64]; omega)
          have P5 : Hid (∀ W, Calls Try.prog 46 #[.int .i64 (IntKind.i64.wrap (d.tdiv c)), .int .i64 (IntKind.i64.wrap (e.tdiv b))] W fun r w' => r = .returned (.agg #[.int .u64 mh, .int .u64 ml]) ∧ Below W.heap.size W w') := Lib.hid (fun W => by rw [← hM, wE2.out, wd1.out, ← hMv.out]; exact l01Times_any d1 E2 W (by omega) (by omega) (by omega) (by omega))
          have P6 : Hid (∀ W, Calls Try.prog 45 #[.agg #[.int .u64 mh, .int .u64 ml]] W fun r w' => r = .returned (.tuple #[.int .i64 mv, .bool mb]) ∧ Below W.heap.size W w') := Lib.hid (fun W => by rw [← hM, ← hmv.out, ← hmb.out]; exact l01Small_any Mv W bM.1 (by omega))
          have hbz : (b == 0) = false := beq_eq_false_iff_ne.2 (by omega)
          have hbz2 : ¬ b = 0 := by omega
          clear hT hU hQ hM f1 f2 f3 f4 f5 f6 bM bq tm tm2
          go_wp2_with fail
          refine (P1.out _).mono ?_
          rintro r w5 ⟨rfl, hb5⟩
          have N0 := Lib.hid (((M0.out.far (by simp <;> omega) (.int .u64 th)).far (by simp <;> omega) (.int .u64 tl)).later hb5)
          have N1 := Lib.hid (((M1.out.far (by simp <;> omega) (.int .u64 th)).far (by simp <;> omega) (.int .u64 tl)).later hb5)
          have NR := Lib.hid (((MR.out.far (by simp <;> omega) (.int .u64 th)).far (by simp <;> omega) (.int .u64 tl)).later hb5)
          have NT := Lib.hid ((MT.out.set2 (.int .u64 th) (.int .u64 tl)).later hb5)
          have NB := Lib.hid (bw_call (bw_setCell (bw_setCell MB.out (by simp <;> omega) (.int .u64 th)) (by simp <;> omega) (.int .u64 tl)) hb5)
          have s5 := NT.out.lt
          clear hb5 M0 M1 MR MT MB qt0 qt1 ft0 ft1 s3 t2 t3 z0 z1 z2 z3
          have qt0 := NT.out.cell 0 rfl
          have qt1 := NT.out.cell 1 rfl
          go_wp2_with fail
          refine (P2.out _).mono ?_
          rintro r w6 ⟨rfl, rfl⟩
          have z0 : ¬ w2.heap.size = w5.heap.size := by omega
          have z1 : ¬ w5.heap.size = w2.heap.size := by omega
          have z2 : ¬ w.heap.size = w5.heap.size := by omega
          have z3 : ¬ w.heap.size + 1 = w5.heap.size := by omega
          have z4 : ¬ w5.heap.size = w.heap.size := by omega
          have z5 : ¬ w5.heap.size = w.heap.size + 1 := by omega
          clear t0 t1
          go_wp2_with fail
          refine (P3.out _).mono ?_
          rintro r w7 ⟨rfl, hb7⟩
          have O0 := Lib.hid ((N0.out.alloc (.cells #[.int .u64 uh, .int .u64 ul] 59)).later hb7)
          have O1 := Lib.hid ((N1.out.alloc (.cells #[.int .u64 uh, .int .u64 ul] 59)).later hb7)
          have OR := Lib.hid ((NR.out.alloc (.cells #[.int .u64 uh, .int .u64 ul] 59)).later hb7)
          have OB := Lib.hid (bw_call (bw_alloc NB.out (.cells #[.int .u64 uh, .int .u64 ul] 59)) hb7)
          have s7 := hb7.size
          simp at s7
          have t0 : w.heap.size + 1 + 1 < w7.heap.size := OR.out.lt
          clear hb7 N0 N1 NR NT NB qt0 qt1 z0 z1 z2 z3 z4 z5 s5 s7
          have z0 : ¬ w.heap.size = w7.heap.size := by omega
          have z1 : ¬ w.heap.size + 1 = w7.heap.size := by omega
          have z2 : ¬ w7.heap.size = w.heap.size := by omega
          have z3 : ¬ w7.heap.size = w.heap.size + 1 := by omega
          have t1 : w.heap.size < w7.heap.size := by omega
          have t2 : w.heap.size + 1 < w7.heap.size := by omega
          go_wp2_with fail
          refine (P4.out _).mono ?_
          rintro r w8 ⟨rfl, hb8⟩
          have U0 := Lib.hid ((O0.out.alloc (.cells #[.int .u64 qh, .int .u64 ql] 59)).later hb8)
          have U1 := Lib.hid ((O1.out.alloc (.cells #[.int .u64 qh, .int .u64 ql] 59)).later hb8)
          have UR := Lib.hid ((OR.out.alloc (.cells #[.int .u64 qh, .int .u64 ql] 59)).later hb8)
          have UB := Lib.hid (bw_call (bw_alloc OB.out (.cells #[.int .u64 qh, .int .u64 ql] 59)) hb8)
          clear hb8 O0 O1 OR OB t0 t1 t2 z0 z1 z2 z3
          have q00 := U0.out.cell 1 rfl
          have q10 := U1.out.cell 1 rfl
          go_wp2_with fail
          go_region_held3 (fun w' => w'.cell? ⟨w.heap.size, 1, none⟩ = some (.int .i64 d) ∧ w'.cell? ⟨w.heap.size + 1, 1, none⟩ = some (.int .i64 e)) (go_keep)
            (first
              | (go_at_call 46; refine (P5.out _).mono ?_; rintro r w9 ⟨rfl, hb9⟩
                 have V0 := U0.out.drew.later hb9
                 have V1 := U1.out.drew.later hb9
                 have VR := UR.out.drew.later hb9
                 have VB := bw_call (bw_drew UB.out) hb9
                 have q90 := V0.cell 1 rfl; have q91 := V1.cell 1 rfl)
              | (go_at_call 45; refine (P6.out _).mono ?_; rintro r w10 ⟨rfl, hb10⟩
                 have X0 := V0.later hb10
                 have X1 := V1.later hb10
                 have XR := VR.later hb10
                 have XB := bw_call VB hb10
                 have q92 := X0.cell 1 rfl; have q93 := X1.cell 1 rfl))
          clear hb9 hb10 V0 V1 VB U0 U1 UR UB VR q00 q10 q90 q91
          have g0 := XR.cell 0 rfl
          have g1 := XR.cell 1 rfl
          have e0 := XR.free 0
          have e2 := XR.free 1
          have HFIN : Hid (cmB n d m e (n * e + m * d) (d * e) = (nb && mb) ∧ (nb = true → mb = true → cmN n d m e (n * e + m * d) (d * e) = sg s1 nv ∧ cmD n d m e (n * e + m * d) (d * e) = mv ∧ (nv = 0 → mv = 1)) ∧ ((nb && mb) = false → cmN n d m e (n * e + m * d) (d * e) = 0 ∧ cmD n d m e (n * e + m * d) (d * e) = 0)) := Lib.hid (by
            have c3 : cmB n d m e (n * e + m * d) (d * e) = (nb && mb) := by rw [HFB.out, hnb.out, hmb.out]
            refine ⟨c3, fun h1 h2 => ?_, fun h => ?_⟩
            · have h3 : qv ≤ 1000000000000000000 := by
                have := hnb.out; rw [h1] at this; exact of_decide_eq_true this
              have h4 : Mv ≤ 1000000000000000000 := by
                have := hmb.out; rw [h2] at this; exact of_decide_eq_true this
              obtain ⟨k1, k2⟩ := HFV.out (by rw [c3, h1, h2]; rfl)
              have k3 : nv = qv := by rw [← hnv.out, if_pos h3]
              have k4 : mv = Mv := by rw [← hmv.out, if_pos h4]
              rw [k3, k4]
              exact ⟨k1, k2, HFO.out⟩
            · rw [h] at c3
              unfold cmN cmD
              rw [c3]
              exact ⟨rfl, rfl⟩)
          clear HFB HFV HFO P1 P2 P3 P4 P5 P6 hnv hnb hmv hmb hqv hE2 hMv
          have unv : IntKind.i64.wrap (-nv) = -nv := by rw [IntKind.wrap_i64]; omega
          cases hxb : nb with
          | false =>
            have F : Hid (cmB n d m e (n * e + m * d) (d * e) = false ∧ cmN n d m e (n * e + m * d) (d * e) = 0 ∧ cmD n d m e (n * e + m * d) (d * e) = 0) := Lib.hid ⟨by rw [HFIN.out.1, hxb]; rfl, HFIN.out.2.2 (by rw [hxb]; rfl)⟩
            clear HFIN
            go_wp2
            refine bodyPost_ret (v := .tuple #[.agg #[.int .i64 0, .int .i64 0], .bool false]) (by simp [results, Try.results36, go_sem, g0, g1]) rfl ⟨by rw [F.out.1, F.out.2.1, F.out.2.2], ?_⟩
            exact bw_setCell (bw_setCell XB (by simp <;> omega) _) (by simp <;> omega) _
          | true =>
            cases hyb : mb with
            | false =>
              have F : Hid (cmB n d m e (n * e + m * d) (d * e) = false ∧ cmN n d m e (n * e + m * d) (d * e) = 0 ∧ cmD n d m e (n * e + m * d) (d * e) = 0) := Lib.hid ⟨by rw [HFIN.out.1, hyb]; simp, HFIN.out.2.2 (by rw [hyb]; simp)⟩
              clear HFIN
              go_wp2
              refine bodyPost_ret (v := .tuple #[.agg #[.int .i64 0, .int .i64 0], .bool false]) (by simp [results, Try.results36, go_sem, g0, g1]) rfl ⟨by rw [F.out.1, F.out.2.1, F.out.2.2], ?_⟩
              exact bw_setCell (bw_setCell XB (by simp <;> omega) _) (by simp <;> omega) _
            | true =>
              have F0 := HFIN.out.2.1 hxb hyb
              have F : Hid (cmB n d m e (n * e + m * d) (d * e) = true ∧ cmN n d m e (n * e + m * d) (d * e) = sg s1 nv ∧ cmD n d m e (n * e + m * d) (d * e) = mv) := Lib.hid ⟨by rw [HFIN.out.1, hxb, hyb]; rfl, F0.1, F0.2.1⟩
              have Fo := Lib.hid F0.2.2
              clear HFIN F0
              by_cases hz : nv = 0
              · subst hz
                have hm1 := Fo.out rfl
                have F' : Hid (cmB n d m e (n * e + m * d) (d * e) = true ∧ cmN n d m e (n * e + m * d) (d * e) = 0 ∧ cmD n d m e (n * e + m * d) (d * e) = 1) := Lib.hid ⟨F.out.1, by rw [F.out.2.1]; unfold sg; split <;> rfl, by rw [F.out.2.2, hm1]⟩
                clear F Fo
                have u0 : IntKind.i64.wrap 0 = 0 := by rw [IntKind.wrap_i64]; omega
                cases hms : s1 <;> go_wp2 <;> refine bodyPost_ret (v := .tuple #[.agg #[.int .i64 0, .int .i64 1], .bool true]) (by simp [results, Try.results36, go_sem, g0, g1]) rfl ⟨by rw [F'.out.1, F'.out.2.1, F'.out.2.2], ?_⟩ <;> exact bw_setCell (bw_setCell XB (by simp <;> omega) _) (by simp <;> omega) _
              · have z1 : (nv == 0) = false := beq_eq_false_iff_ne.2 hz
                have z2 : ¬ -nv = 0 := by omega
                have z3 : (-nv == 0) = false := beq_eq_false_iff_ne.2 z2
                cases hms : s1 with
                | true =>
                  have F' : Hid (cmN n d m e (n * e + m * d) (d * e) = -nv) := Lib.hid (by rw [F.out.2.1, hms]; rfl)
                  go_wp2
                  refine bodyPost_ret (v := .tuple #[.agg #[.int .i64 (-nv), .int .i64 mv], .bool true]) (by simp [results, Try.results36, go_sem, g0, g1]) rfl ⟨by rw [F.out.1, F'.out, F.out.2.2], ?_⟩
                  exact bw_setCell (bw_setCell XB (by simp <;> omega) _) (by simp <;> omega) _
                | false =>
                  have F' : Hid (cmN n d m e (n * e + m * d) (d * e) = nv) := Lib.hid (by rw [F.out.2.1, hms]; rfl)
                  go_wp2
                  refine bodyPost_ret (v := .tuple #[.agg #[.int .i64 nv, .int .i64 mv], .bool true]) (by simp [results, Try.results36, go_sem, g0, g1]) rfl ⟨by rw [F.out.1, F'.out, F.out.2.2], ?_⟩
                  exact bw_setCell (bw_setCell XB (by simp <;> omega) _) (by simp <;> omega) _
end Go.Proofs.Ytcmmcffglmcegaa
