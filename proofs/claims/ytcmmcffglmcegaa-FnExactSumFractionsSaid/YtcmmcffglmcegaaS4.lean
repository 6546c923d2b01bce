/-
  Contracts of the reference's comparison of fractions. Conditions: both fractions are valid.
-/
import Derived.Test.YtcmmcffglmcegaaS3
namespace Go.Proofs.Ytcmmcffglmcegaa
open Go.RowKit
set_option linter.unusedVariables false

theorem wd_ex (v : Int) : ∃ h l : Int, wd v = .agg #[.int .u64 h, .int .u64 l] := ⟨_, _, rfl⟩
theorem i64_neg {n : Int} (h : -1000000000000000000 ≤ n ∧ n ≤ 1000000000000000000) : IntKind.i64.wrap (-n) = -n := by rw [IntKind.wrap_i64]; omega
set_option maxRecDepth 100000 in
set_option maxHeartbeats 4000000 in
theorem l01FCmp_same (n d m e : Int) (w : World) (sb : Bool) (p1 : decide (n < 0) = sb) (p2 : decide (m < 0) = sb) (v1 : 1 ≤ d ∧ d ≤ 1000000000000000000) (v2 : -1000000000000000000 ≤ n ∧ n ≤ 1000000000000000000) (u1 : 1 ≤ e ∧ e ≤ 1000000000000000000) (u2 : -1000000000000000000 ≤ m ∧ m ≤ 1000000000000000000) :
    Calls Try.prog 30 #[.agg #[.int .i64 n, .int .i64 d], .agg #[.int .i64 m, .int .i64 e]] w fun r w' => r = .returned (.int .i64 (sgn (n * e - m * d))) ∧ Below w.heap.size w w' := by
  have t0 : w.heap.size < w.heap.size + 1 + 1 := by omega
  have t1 : w.heap.size + 1 < w.heap.size + 1 + 1 := by omega
  have z0 : ¬ w.heap.size = w.heap.size + 1 + 1 := by omega
  have z1 : ¬ w.heap.size + 1 = w.heap.size + 1 + 1 := by omega
  have y0 : ¬ w.heap.size + 1 + 1 = w.heap.size := by omega
  have y1 : ¬ w.heap.size + 1 + 1 = w.heap.size + 1 := by omega
  have m0 := absI_nonneg n
  have m1 := absI_nonneg m
  have m2 := absI_le v2.1 v2.2
  have m3 := absI_le u2.1 u2.2
  have bx := word_bd (x := absI n) (y := e) (m := 1000000000000000000) (n := 1000000000000000000) m0 m2 (by omega) u1.2
  have by1 := word_bd (x := absI m) (y := d) (m := 1000000000000000000) (n := 1000000000000000000) m1 m3 (by omega) v1.2
  have HS : Hid (sgn (n * e - m * d) = if sb then sgn (absI m * d - absI n * e) else sgn (absI n * e - absI m * d)) := Lib.hid (by
    cases sb with
    | true =>
      have c1 := of_decide_eq_true p1
      have c2 := of_decide_eq_true p2
      rw [if_pos rfl]
      congr 1
      unfold absI
      rw [show (n.natAbs : Int) = -n by omega, show (m.natAbs : Int) = -m by omega]
      grind
    | false =>
      have c1 := of_decide_eq_false p1
      have c2 := of_decide_eq_false p2
      rw [if_neg (by simp)]
      congr 1
      unfold absI
      rw [show (n.natAbs : Int) = n by omega, show (m.natAbs : Int) = m by omega])
  obtain ⟨xh, xl, hX⟩ := wd_ex (absI n * e)
  obtain ⟨yh, yl, hY⟩ := wd_ex (absI m * d)
  have T1 : Hid (∀ W, Calls Try.prog 46 #[.int .i64 (absI n), .int .i64 e] W fun r w' => r = .returned (.agg #[.int .u64 xh, .int .u64 xl]) ∧ Below W.heap.size W w') := Lib.hid (fun W => by rw [← hX]; exact l01Times_any _ _ W m0 m2 (by omega) u1.2)
  have T2 : Hid (∀ W, Calls Try.prog 46 #[.int .i64 (absI m), .int .i64 d] W fun r w' => r = .returned (.agg #[.int .u64 yh, .int .u64 yl]) ∧ Below W.heap.size W w') := Lib.hid (fun W => by rw [← hY]; exact l01Times_any _ _ W m1 m3 (by omega) v1.2)
  obtain ⟨X, hXX⟩ : ∃ X, absI n * e = X := ⟨_, rfl⟩
  obtain ⟨Y, hYY⟩ : ∃ X, absI m * d = X := ⟨_, rfl⟩
  rw [hXX, hYY] at HS
  rw [hXX] at hX bx
  rw [hYY] at hY by1
  have L1 : Hid (∀ W, Calls Try.prog 50 #[.agg #[.int .u64 xh, .int .u64 xl], .agg #[.int .u64 yh, .int .u64 yl]] W fun r w' => r = .returned (.bool (decide (X < Y))) ∧ Below W.heap.size W w') := Lib.hid (fun W => by rw [← hX, ← hY]; exact l01Less_any _ _ W bx.1 (by omega) by1.1 (by omega))
  have L2 : Hid (∀ W, Calls Try.prog 50 #[.agg #[.int .u64 yh, .int .u64 yl], .agg #[.int .u64 xh, .int .u64 xl]] W fun r w' => r = .returned (.bool (decide (Y < X))) ∧ Below W.heap.size W w') := Lib.hid (fun W => by rw [← hX, ← hY]; exact l01Less_any _ _ W by1.1 (by omega) bx.1 (by omega))
  have un : Hid (IntKind.i64.wrap (-n) = -n) := Lib.hid (i64_neg v2)
  have um : Hid (IntKind.i64.wrap (-m) = -m) := Lib.hid (i64_neg u2)
  clear hX hY hXX hYY
  go_enter Try.func30, Try.ntmps30
  go_wp2_with fail
  refine Code.wp_mono (Q := fun ex a' w' => ex = Exit.normal ∧ ∃ g : Nat, a' = { tmps := #[Value.agg #[Value.int IntKind.i64 n, Value.int IntKind.i64 d], Value.agg #[Value.int IntKind.i64 m, Value.int IntKind.i64 e], Value.pointer (some { block := w.heap.size, off := 0 }), Value.pointer (some { block := w.heap.size + 1, off := 0 }), Value.int IntKind.i64 0, Value.pointer (some { block := g, off := 0 }), undef, undef, Value.pointer (some { block := w.heap.size, off := 0 }), Value.int IntKind.i64 n, Value.bool sb, Value.pointer (some { block := w.heap.size + 1, off := 0 }), Value.int IntKind.i64 m, Value.bool sb, Value.bool false, undef, undef, undef, Value.pointer (some { block := w.heap.size, off := 0 }), Value.int IntKind.i64 n, Value.pointer (some { block := w.heap.size, off := 0 }), Value.int IntKind.i64 n, Value.int IntKind.i64 (IntKind.i64.wrap (-n)), Value.int IntKind.i64 (absI n), Value.pointer (some { block := w.heap.size + 1, off := 1 }), Value.int IntKind.i64 e, Value.agg #[Value.int IntKind.u64 xh, Value.int IntKind.u64 xl], undef, undef, undef, undef, undef, undef, undef, undef, undef, undef, undef, undef, undef, undef, undef, undef, undef, undef, undef, undef, undef], defers := [] } ∧ Hid (Blk w' w.heap.size #[.int .i64 n, .int .i64 d] 24 ∧ Blk w' (w.heap.size + 1) #[.int .i64 m, .int .i64 e] 24 ∧ Blk w' g #[.int .u64 xh, .int .u64 xl] 59 ∧ Below w.heap.size w w' ∧ w.heap.size + 1 < g)) ?hq ?hr
  case hr =>
    go_region_held3 (fun w' => w'.cell? ⟨w.heap.size, 0, none⟩ = some (.int .i64 n) ∧ w'.cell? ⟨w.heap.size, 1, none⟩ = some (.int .i64 d) ∧ w'.cell? ⟨w.heap.size + 1, 0, none⟩ = some (.int .i64 m) ∧ w'.cell? ⟨w.heap.size + 1, 1, none⟩ = some (.int .i64 e)) (go_keep)
      (first
        | (go_at_call 44; (with_reducible refine (l00Max_of n (IntKind.i64.wrap (-n)) _ un.out v2.1 v2.2).mono ?_); rintro r w3 ⟨rfl, rfl⟩)
        | (go_at_call 46; refine (T1.out _).mono ?_; rintro r w4 ⟨rfl, hb4⟩
           have A4 : Blk w4 w.heap.size #[.int .i64 n, .int .i64 d] 24 := by
             first
               | exact ((((Blk.new w _ _).alloc _).alloc _).drew).later hb4
               | exact (((Blk.new w _ _).alloc _).drew).later hb4
           have C4 : Blk w4 (w.heap.size + 1) #[.int .i64 m, .int .i64 e] 24 := by
             first
               | exact (((Blk.new' (by simp) _ _).alloc _).drew).later hb4
               | exact ((Blk.new' (by simp) _ _).drew).later hb4
           have B4 : Below w.heap.size w w4 := by
             first
               | exact bw_call (bw_drew (bw_alloc (bw_alloc (bw_alloc (bw_refl w) _) _) _)) hb4
               | exact bw_call (bw_drew (bw_alloc (bw_alloc (bw_refl w) _) _)) hb4
           have s4 := hb4.size
           simp at s4
           have q40 := A4.cell 0 rfl; have q41 := C4.cell 0 rfl; have q42 := A4.cell 1 rfl; have q43 := C4.cell 1 rfl
           try (have D4 : Blk w4 (w.heap.size + 1 + 1) #[.int .u64 0, .int .u64 0] 59 := (Blk.drew (Blk.new' (by simp) _ _)).later hb4
                have g0 := D4.cell 0 rfl; have g1 := D4.cell 1 rfl; have e0 := D4.free 0; have e1 := D4.free 1)))
    all_goals first
      | exact ⟨rfl, _, rfl, Lib.hid ⟨A4.alloc _, C4.alloc _, Blk.new w4 _ _, bw_alloc B4 _, by omega⟩⟩
      | exact ⟨rfl, _, rfl, Lib.hid ⟨(A4.far (by simp <;> omega) _).far (by simp <;> omega) _, (C4.far (by simp <;> omega) _).far (by simp <;> omega) _, D4.set2 _ _, bw_setCell (bw_setCell B4 (by simp <;> omega) _) (by simp <;> omega) _, by omega⟩⟩
  case hq =>
    rintro ex a' w1 ⟨rfl, g, rfl, H1⟩
    clear t0 t1 z0 z1 y0 y1
    have K1 := Lib.hid H1.out.1
    have K2 := Lib.hid H1.out.2.1
    have K3 := Lib.hid H1.out.2.2.1
    have K4 := Lib.hid H1.out.2.2.2.1
    have gg := H1.out.2.2.2.2
    have lg := K3.out.lt
    clear H1
    have q00 := K1.out.cell 0 rfl
    have q01 := K1.out.cell 1 rfl
    have q10 := K2.out.cell 0 rfl
    have q11 := K2.out.cell 1 rfl
    have t0 : w.heap.size < w1.heap.size := by omega
    have t1 : w.heap.size + 1 < w1.heap.size := by omega
    have z0 : ¬ w.heap.size = w1.heap.size := by omega
    have z1 : ¬ w.heap.size + 1 = w1.heap.size := by omega
    have y0 : ¬ w1.heap.size = w.heap.size := by omega
    have y1 : ¬ w1.heap.size = w.heap.size + 1 := by omega
    go_wp2_with fail
    refine Code.wp_mono (Q := fun ex a' w' => ex = Exit.normal ∧ ∃ h : Nat, a' = { tmps := #[Value.agg #[Value.int IntKind.i64 n, Value.int IntKind.i64 d], Value.agg #[Value.int IntKind.i64 m, Value.int IntKind.i64 e], Value.pointer (some { block := w.heap.size, off := 0 }), Value.pointer (some { block := w.heap.size + 1, off := 0 }), Value.int IntKind.i64 0, Value.pointer (some { block := g, off := 0 }), Value.pointer (some { block := h, off := 0 }), undef, Value.pointer (some { block := w.heap.size, off := 0 }), Value.int IntKind.i64 n, Value.bool sb, Value.pointer (some { block := w.heap.size + 1, off := 0 }), Value.int IntKind.i64 m, Value.bool sb, Value.bool false, undef, undef, undef, Value.pointer (some { block := w.heap.size, off := 0 }), Value.int IntKind.i64 n, Value.pointer (some { block := w.heap.size, off := 0 }), Value.int IntKind.i64 n, Value.int IntKind.i64 (IntKind.i64.wrap (-n)), Value.int IntKind.i64 (absI n), Value.pointer (some { block := w.heap.size + 1, off := 1 }), Value.int IntKind.i64 e, Value.agg #[Value.int IntKind.u64 xh, Value.int IntKind.u64 xl], Value.pointer (some { block := w.heap.size + 1, off := 0 }), Value.int IntKind.i64 m, Value.pointer (some { block := w.heap.size + 1, off := 0 }), Value.int IntKind.i64 m, Value.int IntKind.i64 (IntKind.i64.wrap (-m)), Value.int IntKind.i64 (absI m), Value.pointer (some { block := w.heap.size, off := 1 }), Value.int IntKind.i64 d, Value.agg #[Value.int IntKind.u64 yh, Value.int IntKind.u64 yl], undef, undef, undef, undef, undef, undef, undef, undef, undef, undef, undef, undef], defers := [] } ∧ Hid (Blk w' w.heap.size #[.int .i64 n, .int .i64 d] 24 ∧ Blk w' g #[.int .u64 xh, .int .u64 xl] 59 ∧ Blk w' h #[.int .u64 yh, .int .u64 yl] 59 ∧ Below w.heap.size w w')) ?hq2 ?hr2
    case hr2 =>
      go_region_held3 (fun w' => w'.cell? ⟨w.heap.size, 0, none⟩ = some (.int .i64 n) ∧ w'.cell? ⟨w.heap.size, 1, none⟩ = some (.int .i64 d) ∧ w'.cell? ⟨w.heap.size + 1, 0, none⟩ = some (.int .i64 m) ∧ w'.cell? ⟨w.heap.size + 1, 1, none⟩ = some (.int .i64 e)) (go_keep)
        (first
          | (go_at_call 44; (with_reducible refine (l00Max_of m (IntKind.i64.wrap (-m)) _ um.out u2.1 u2.2).mono ?_); rintro r w3 ⟨rfl, rfl⟩)
          | (go_at_call 46; refine (T2.out _).mono ?_; rintro r w4 ⟨rfl, hb4⟩
             have A4 : Blk w4 w.heap.size #[.int .i64 n, .int .i64 d] 24 := by
               first
                 | exact (K1.out.alloc _).drew.later hb4
                 | exact K1.out.drew.later hb4
             have C4 : Blk w4 (w.heap.size + 1) #[.int .i64 m, .int .i64 e] 24 := by
               first
                 | exact (K2.out.alloc _).drew.later hb4
                 | exact K2.out.drew.later hb4
             have X4 : Blk w4 g #[.int .u64 xh, .int .u64 xl] 59 := by
               first
                 | exact (K3.out.alloc _).drew.later hb4
                 | exact K3.out.drew.later hb4
             have B4 : Below w.heap.size w w4 := by
               first
                 | exact bw_call (bw_drew (bw_alloc K4.out _)) hb4
                 | exact bw_call (bw_drew K4.out) hb4
             have q40 := A4.cell 0 rfl; have q41 := C4.cell 0 rfl; have q42 := A4.cell 1 rfl; have q43 := C4.cell 1 rfl
             try (have D4 : Blk w4 w1.heap.size #[.int .u64 0, .int .u64 0] 59 := (Blk.drew (Blk.new' (by simp) _ _)).later hb4
                  have g0 := D4.cell 0 rfl; have g1 := D4.cell 1 rfl; have e0 := D4.free 0; have e1 := D4.free 1)))
      all_goals first
        | exact ⟨rfl, _, rfl, Lib.hid ⟨A4.alloc _, X4.alloc _, Blk.new w4 _ _, bw_alloc B4 _⟩⟩
        | exact ⟨rfl, _, rfl, Lib.hid ⟨(A4.far (by simp <;> omega) _).far (by simp <;> omega) _, (X4.far (by simp <;> omega) _).far (by simp <;> omega) _, D4.set2 _ _, bw_setCell (bw_setCell B4 (by simp <;> omega) _) (by simp <;> omega) _⟩⟩
    case hq2 =>
      rintro ex a' w2 ⟨rfl, h, rfl, H2⟩
      clear t0 t1 z0 z1 y0 y1 q00 q01 q10 q11 K1 K2 K3 K4 gg lg
      have q00 := H2.out.1.cell 0 rfl
      have qx0 := H2.out.2.1.cell 0 rfl
      have qx1 := H2.out.2.1.cell 1 rfl
      have qy0 := H2.out.2.2.1.cell 0 rfl
      have qy1 := H2.out.2.2.1.cell 1 rfl
      go_wp2_with fail
      refine (L1.out _).mono ?_
      rintro r w3 ⟨rfl, hb3⟩
      have J0 := Lib.hid (H2.out.1.later hb3)
      have J1 := Lib.hid (H2.out.2.1.later hb3)
      have J2 := Lib.hid (H2.out.2.2.1.later hb3)
      have J3 := Lib.hid (bw_call H2.out.2.2.2 hb3)
      clear hb3 H2 q00 qx0 qx1 qy0 qy1
      have q00 := J0.out.cell 0 rfl
      have qx0 := J1.out.cell 0 rfl
      have qx1 := J1.out.cell 1 rfl
      have qy0 := J2.out.cell 0 rfl
      have qy1 := J2.out.cell 1 rfl
      have FIN : Hid (∀ o : Int, ((X < Y ∧ o = -1) ∨ (Y < X ∧ o = 1) ∨ (X = Y ∧ o = 0)) → sgn (n * e - m * d) = if sb then -o else o) := Lib.hid (fun o ho => by
        rw [HS.out]
        unfold sgn
        cases sb <;> simp <;> rcases ho with ⟨h1, rfl⟩ | ⟨h1, rfl⟩ | ⟨h1, rfl⟩
        · rw [if_neg (by omega), if_pos (by omega)]
        · rw [if_neg (by omega), if_neg (by omega)]
        · rw [if_pos (by omega)]
        · rw [if_neg (by omega), if_neg (by omega)]; rfl
        · rw [if_neg (by omega), if_pos (by omega)]
        · rw [if_pos (by omega)]; rfl)
      by_cases hxy : X < Y
      · have hyx : ¬ Y < X := by omega
        have HF := Lib.hid (FIN.out (-1) (.inl ⟨hxy, rfl⟩))
        have b1 : decide (X < Y) = true := decide_eq_true hxy
        have b2 : decide (Y < X) = false := decide_eq_false hyx
        rw [b1]
        rw [b2] at L2
        clear hxy hyx b1 b2 FIN
        cases sb <;> (go_wp2_with (go_at_call 50; refine (L2.out _).mono ?_; rintro r w4 ⟨rfl, hb4⟩; have J4 := Lib.hid (bw_call J3.out hb4); have q400 := (J0.out.later hb4).cell 0 rfl; clear hb4)) <;> go_ret <;> exact ⟨by rw [HF.out]; rfl, J4.out⟩
      · by_cases hyx : Y < X
        · have HF := Lib.hid (FIN.out 1 (.inr (.inl ⟨hyx, rfl⟩)))
          have b1 : decide (X < Y) = false := decide_eq_false hxy
          have b2 : decide (Y < X) = true := decide_eq_true hyx
          rw [b1]
          rw [b2] at L2
          clear hxy hyx b1 b2 FIN
          cases sb <;> (go_wp2_with (go_at_call 50; refine (L2.out _).mono ?_; rintro r w4 ⟨rfl, hb4⟩; have J4 := Lib.hid (bw_call J3.out hb4); have q400 := (J0.out.later hb4).cell 0 rfl; clear hb4)) <;> go_ret <;> exact ⟨by rw [HF.out]; rfl, J4.out⟩
        · have HF := Lib.hid (FIN.out 0 (.inr (.inr ⟨by omega, rfl⟩)))
          have b1 : decide (X < Y) = false := decide_eq_false hxy
          have b2 : decide (Y < X) = false := decide_eq_false hyx
          rw [b1]
          rw [b2] at L2
          clear hxy hyx b1 b2 FIN
          cases sb <;> (go_wp2_with (go_at_call 50; refine (L2.out _).mono ?_; rintro r w4 ⟨rfl, hb4⟩; have J4 := Lib.hid (bw_call J3.out hb4); have q400 := (J0.out.later hb4).cell 0 rfl; clear hb4)) <;> go_ret <;> exact ⟨by rw [HF.out]; rfl, J4.out⟩
theorem l01FCmp_any (n d m e : Int) (w : World) (h1 : vfB n d = true) (h2 : vfB m e = true) :
    Calls Try.prog 30 #[.agg #[.int .i64 n, .int .i64 d], .agg #[.int .i64 m, .int .i64 e]] w fun r w' => r = .returned (.int .i64 (sgn (n * e - m * d))) ∧ Below w.heap.size w w' := by
  obtain ⟨v1, v2, v3⟩ := vfB_true h1
  obtain ⟨u1, u2, u3⟩ := vfB_true h2
  clear v3 u3 h1 h2
  have ne : 0 < e := by omega
  by_cases c1 : n < 0
  · have p1 : decide (n < 0) = true := decide_eq_true c1
    by_cases c2 : m < 0
    · exact l01FCmp_same n d m e w true p1 (decide_eq_true c2) v1 v2 u1 u2
    · have p2 : decide (m < 0) = false := decide_eq_false c2
      have e1 : Hid (sgn (n * e - m * d) = -1) := Lib.hid (by
        have a1 := Int.mul_neg_of_neg_of_pos c1 ne
        have a2 := Int.mul_nonneg (show 0 ≤ m by omega) (show 0 ≤ d by omega)
        unfold sgn
        rw [if_neg (by omega), if_pos (by omega)])
      rw [e1.out]
      clear c1 c2
      go_enter Try.func30, Try.ntmps30
      go_wp2
      go_ret
      exact ⟨rfl, bw_alloc (bw_alloc (bw_refl _) _) _⟩
  · have p1 : decide (n < 0) = false := decide_eq_false c1
    by_cases c2 : m < 0
    · have p2 : decide (m < 0) = true := decide_eq_true c2
      have e1 : Hid (sgn (n * e - m * d) = 1) := Lib.hid (by
        have a1 := Int.mul_neg_of_neg_of_pos c2 (show 0 < d by omega)
        have a2 := Int.mul_nonneg (show 0 ≤ n by omega) (show 0 ≤ e by omega)
        unfold sgn
        rw [if_neg (by omega), if_neg (by omega)])
      rw [e1.out]
      clear c1 c2
      go_enter Try.func30, Try.ntmps30
      go_wp2
      go_ret
      exact ⟨rfl, bw_alloc (bw_alloc (bw_refl _) _) _⟩
    · exact l01FCmp_same n d m e w false p1 (decide_eq_false c2) v1 v2 u1 u2
end Go.Proofs.Ytcmmcffglmcegaa
