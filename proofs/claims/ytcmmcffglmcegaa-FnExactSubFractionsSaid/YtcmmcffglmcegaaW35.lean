/-
  Walks of laws on two fractions, FnExactAddFractions, FnExactSubFractions: each returns true for every argument. No condition.
-/
import Derived.Test.YtcmmcffglmcegaaS8
namespace Go.Proofs.Ytcmmcffglmcegaa
open Go.RowKit
set_option linter.unusedVariables false

set_option maxRecDepth 100000 in
set_option maxHeartbeats 4000000 in
theorem FnExactAddFractions_walk (n d m e : Int) (w : World) (w_n : (Lit.int .i64 n).wf = true) (w_d : (Lit.int .i64 d).wf = true) (w_m : (Lit.int .i64 m).wf = true) (w_e : (Lit.int .i64 e).wf = true) :
    Calls Try.prog 6 #[.agg #[.int .i64 n, .int .i64 d], .agg #[.int .i64 m, .int .i64 e]] w fun r w' => r = .returned (.bool true) ∧ Below w.heap.size w w' := by
  clear w_n w_d w_m w_e
  obtain ⟨p, hp⟩ : ∃ p, Hid (cmN n d m e (n * e + m * d) (d * e) = p) := ⟨_, Lib.hid rfl⟩
  obtain ⟨q, hq⟩ : ∃ p, Hid (cmD n d m e (n * e + m * d) (d * e) = p) := ⟨_, Lib.hid rfl⟩
  obtain ⟨b, hb⟩ : ∃ p, Hid (cmB n d m e (n * e + m * d) (d * e) = p) := ⟨_, Lib.hid rfl⟩
  have t0 : w.heap.size < w.heap.size + 1 + 1 := by omega
  have t1 : w.heap.size + 1 < w.heap.size + 1 + 1 := by omega
  have z0 : ¬ w.heap.size = w.heap.size + 1 + 1 := by omega
  have z1 : ¬ w.heap.size + 1 = w.heap.size + 1 + 1 := by omega
  have y0 : ¬ w.heap.size + 1 + 1 = w.heap.size := by omega
  have y1 : ¬ w.heap.size + 1 + 1 = w.heap.size + 1 := by omega
  go_enter Try.func6, Try.ntmps6
  go_wp2_with fail
  refine Code.wp_mono (Q := fun ex a' w' => ex = Exit.normal ∧ ∃ g : Nat, a' = { tmps := #[Value.agg #[Value.int IntKind.i64 n, Value.int IntKind.i64 d], Value.agg #[Value.int IntKind.i64 m, Value.int IntKind.i64 e], Value.pointer (some { block := w.heap.size, off := 0 }), Value.pointer (some { block := w.heap.size + 1, off := 0 }), Value.bool false, Value.pointer (some { block := g, off := 0 }), Value.bool b, undef, undef, Value.tuple #[Value.agg #[Value.int IntKind.i64 p, Value.int IntKind.i64 q], Value.bool b], Value.agg #[Value.int IntKind.i64 n, Value.int IntKind.i64 d], Value.agg #[Value.int IntKind.i64 n, Value.int IntKind.i64 d], Value.agg #[Value.int IntKind.i64 m, Value.int IntKind.i64 e], Value.agg #[Value.int IntKind.i64 m, Value.int IntKind.i64 e], Value.tuple #[Value.agg #[Value.int IntKind.i64 p, Value.int IntKind.i64 q], Value.bool b], Value.agg #[Value.int IntKind.i64 p, Value.int IntKind.i64 q], Value.bool b, undef, undef, undef, undef, undef, undef, undef, undef, undef, undef, undef, undef, undef, undef, undef, undef, undef], defers := [] } ∧ Hid (Blk w' (w.heap.size) #[.int .i64 n, .int .i64 d] 23 ∧ Blk w' (w.heap.size + 1) #[.int .i64 m, .int .i64 e] 23 ∧ Blk w' (g) #[.int .i64 p, .int .i64 q] 24 ∧ Below w.heap.size w w')) ?hq ?hr
  case hr =>
    go_region_held3 (fun w' => w'.cell? ⟨w.heap.size, 0, none⟩ = some (.int .i64 n) ∧ w'.cell? ⟨w.heap.size, 1, none⟩ = some (.int .i64 d) ∧ w'.cell? ⟨w.heap.size + 1, 0, none⟩ = some (.int .i64 m) ∧ w'.cell? ⟨w.heap.size + 1, 1, none⟩ = some (.int .i64 e)) (go_keep)
      (first
        | (go_at_call 10; (with_reducible refine (toFraction_any n d _).mono ?_); rintro r u1 ⟨rfl, hbu1⟩
           have Xu10 : Blk u1 (w.heap.size) #[.int .i64 n, .int .i64 d] 23 := Blk.later (by (repeat (first | with_reducible exact rfl | with_reducible exact Blk.new _ _ _ | with_reducible refine Blk.drew ?_ | (with_reducible refine Blk.new' ?_ _ _; simp; done) | with_reducible refine Blk.alloc ?_ _))) hbu1
           have Xu11 : Blk u1 (w.heap.size + 1) #[.int .i64 m, .int .i64 e] 23 := Blk.later (by (repeat (first | with_reducible exact rfl | with_reducible exact Blk.new _ _ _ | with_reducible refine Blk.drew ?_ | (with_reducible refine Blk.new' ?_ _ _; simp; done) | with_reducible refine Blk.alloc ?_ _))) hbu1
           have XBu1 : Below w.heap.size w u1 := bw_call (by (repeat (first | with_reducible exact rfl | with_reducible exact bw_refl _ | with_reducible refine bw_drew ?_ | with_reducible refine bw_alloc ?_ _))) hbu1
           have xsu1 := hbu1.size
           try simp at xsu1
           have xlu1 := Xu11.lt
           have qau1 := Xu10.cell 0 rfl; have qbu1 := Xu10.cell 1 rfl; have qcu1 := Xu11.cell 0 rfl; have qdu1 := Xu11.cell 1 rfl
           have nau1 : ¬ w.heap.size = u1.heap.size := by omega
           have nbu1 : ¬ w.heap.size + 1 = u1.heap.size := by omega
           have ncu1 : ¬ u1.heap.size = w.heap.size := by omega
           have ndu1 : ¬ u1.heap.size = w.heap.size + 1 := by omega
           have tau1 : w.heap.size < u1.heap.size := by omega
           have tbu1 : w.heap.size + 1 < u1.heap.size := by omega
           (first | (have Du1 : Blk u1 ((w.heap.size + 1 + 1)) #[.int .i64 0, .int .i64 0] 24 := (Blk.drew (Blk.new' (by simp) _ _)).later hbu1) | skip))
        | (go_at_call 10; (with_reducible refine (toFraction_any m e _).mono ?_); rintro r u2 ⟨rfl, hbu2⟩
           have Xu20 : Blk u2 (w.heap.size) #[.int .i64 n, .int .i64 d] 23 := Blk.later (by (repeat (first | with_reducible exact Xu10 | with_reducible exact Blk.new _ _ _ | with_reducible refine Blk.drew ?_ | (with_reducible refine Blk.new' ?_ _ _; simp; done) | with_reducible refine Blk.alloc ?_ _))) hbu2
           have Xu21 : Blk u2 (w.heap.size + 1) #[.int .i64 m, .int .i64 e] 23 := Blk.later (by (repeat (first | with_reducible exact Xu11 | with_reducible exact Blk.new _ _ _ | with_reducible refine Blk.drew ?_ | (with_reducible refine Blk.new' ?_ _ _; simp; done) | with_reducible refine Blk.alloc ?_ _))) hbu2
           have XBu2 : Below w.heap.size w u2 := bw_call (by (repeat (first | with_reducible exact XBu1 | with_reducible exact bw_refl _ | with_reducible refine bw_drew ?_ | with_reducible refine bw_alloc ?_ _))) hbu2
           have xsu2 := hbu2.size
           try simp at xsu2
           have xlu2 := Xu21.lt
           have qau2 := Xu20.cell 0 rfl; have qbu2 := Xu20.cell 1 rfl; have qcu2 := Xu21.cell 0 rfl; have qdu2 := Xu21.cell 1 rfl
           have nau2 : ¬ w.heap.size = u2.heap.size := by omega
           have nbu2 : ¬ w.heap.size + 1 = u2.heap.size := by omega
           have ncu2 : ¬ u2.heap.size = w.heap.size := by omega
           have ndu2 : ¬ u2.heap.size = w.heap.size + 1 := by omega
           have tau2 : w.heap.size < u2.heap.size := by omega
           have tbu2 : w.heap.size + 1 < u2.heap.size := by omega
           (first | (have Du2 := Blk.later Du1 hbu2; clear Du1) | (have zz : Blk (u1.alloc (.cells #[.int .i64 0, .int .i64 0] 24)) (u1.heap.size) #[.int .i64 0, .int .i64 0] 24 := Blk.new _ _ _; have Du2 := Blk.later zz hbu2; clear zz) | skip))
        | (go_at_call 17; refine (sAddFractions_any n d m e _).mono ?_; rw [hp.out, hq.out, hb.out]; rintro r u3 ⟨rfl, hbu3⟩
           have Xu30 : Blk u3 (w.heap.size) #[.int .i64 n, .int .i64 d] 23 := Blk.later (by (repeat (first | with_reducible exact Xu20 | with_reducible exact Blk.new _ _ _ | with_reducible refine Blk.drew ?_ | (with_reducible refine Blk.new' ?_ _ _; simp; done) | with_reducible refine Blk.alloc ?_ _))) hbu3
           have Xu31 : Blk u3 (w.heap.size + 1) #[.int .i64 m, .int .i64 e] 23 := Blk.later (by (repeat (first | with_reducible exact Xu21 | with_reducible exact Blk.new _ _ _ | with_reducible refine Blk.drew ?_ | (with_reducible refine Blk.new' ?_ _ _; simp; done) | with_reducible refine Blk.alloc ?_ _))) hbu3
           have XBu3 : Below w.heap.size w u3 := bw_call (by (repeat (first | with_reducible exact XBu2 | with_reducible exact bw_refl _ | with_reducible refine bw_drew ?_ | with_reducible refine bw_alloc ?_ _))) hbu3
           have xsu3 := hbu3.size
           try simp at xsu3
           have xlu3 := Xu31.lt
           have qau3 := Xu30.cell 0 rfl; have qbu3 := Xu30.cell 1 rfl; have qcu3 := Xu31.cell 0 rfl; have qdu3 := Xu31.cell 1 rfl
           have nau3 : ¬ w.heap.size = u3.heap.size := by omega
           have nbu3 : ¬ w.heap.size + 1 = u3.heap.size := by omega
           have ncu3 : ¬ u3.heap.size = w.heap.size := by omega
           have ndu3 : ¬ u3.heap.size = w.heap.size + 1 := by omega
           have tau3 : w.heap.size < u3.heap.size := by omega
           have tbu3 : w.heap.size + 1 < u3.heap.size := by omega
           (first | (have Du3 := Blk.later Du2 hbu3; clear Du2) | (have zz : Blk (u2.alloc (.cells #[.int .i64 0, .int .i64 0] 24)) (u2.heap.size) #[.int .i64 0, .int .i64 0] 24 := Blk.new _ _ _; have Du3 := Blk.later zz hbu3; clear zz) | skip)
           try (have g0 := Du3.cell 0 rfl; have g1 := Du3.cell 1 rfl; have e0 := Du3.free 0; have e1 := Du3.free 1)))
    all_goals first
      | exact ⟨rfl, _, rfl, Lib.hid ⟨Xu30.alloc _, Xu31.alloc _, Blk.new u3 _ _, bw_alloc XBu3 _⟩⟩
      | exact ⟨rfl, _, rfl, Lib.hid ⟨(Xu30.far (by simp <;> omega) _).far (by simp <;> omega) _, (Xu31.far (by simp <;> omega) _).far (by simp <;> omega) _, Du3.set2 _ _, bw_setCell (bw_setCell XBu3 (by simp <;> omega) _) (by simp <;> omega) _⟩⟩
  case hq =>
    rintro ex a' w4 ⟨rfl, g, rfl, H1⟩
    clear t0 t1 z0 z1 y0 y1
    have Y0 := Lib.hid H1.out.1
    have Y1 := Lib.hid H1.out.2.1
    have Yg := Lib.hid H1.out.2.2.1
    have YB := Lib.hid H1.out.2.2.2
    have lg := Yg.out.lt
    have l1 := Y1.out.lt
    clear H1
    have q00 := Y0.out.cell 0 rfl
    have q01 := Y0.out.cell 1 rfl
    have q10 := Y1.out.cell 0 rfl
    have q11 := Y1.out.cell 1 rfl
    have t0 : w.heap.size < w4.heap.size := by omega
    have t1 : w.heap.size + 1 < w4.heap.size := by omega
    have z0 : ¬ w.heap.size = w4.heap.size := by omega
    have z1 : ¬ w.heap.size + 1 = w4.heap.size := by omega
    have y0 : ¬ w4.heap.size = w.heap.size := by omega
    have y1 : ¬ w4.heap.size = w.heap.size + 1 := by omega
    go_wp2_with fail
    refine Code.wp_mono (Q := fun ex a' w' => ex = Exit.normal ∧ ∃ h : Nat, a' = { tmps := #[Value.agg #[Value.int IntKind.i64 n, Value.int IntKind.i64 d], Value.agg #[Value.int IntKind.i64 m, Value.int IntKind.i64 e], Value.pointer (some { block := w.heap.size, off := 0 }), Value.pointer (some { block := w.heap.size + 1, off := 0 }), Value.bool false, Value.pointer (some { block := g, off := 0 }), Value.bool b, Value.pointer (some { block := h, off := 0 }), Value.bool b, Value.tuple #[Value.agg #[Value.int IntKind.i64 p, Value.int IntKind.i64 q], Value.bool b], Value.agg #[Value.int IntKind.i64 n, Value.int IntKind.i64 d], Value.agg #[Value.int IntKind.i64 n, Value.int IntKind.i64 d], Value.agg #[Value.int IntKind.i64 m, Value.int IntKind.i64 e], Value.agg #[Value.int IntKind.i64 m, Value.int IntKind.i64 e], Value.tuple #[Value.agg #[Value.int IntKind.i64 p, Value.int IntKind.i64 q], Value.bool b], Value.agg #[Value.int IntKind.i64 p, Value.int IntKind.i64 q], Value.bool b, Value.tuple #[Value.agg #[Value.int IntKind.i64 p, Value.int IntKind.i64 q], Value.bool b], Value.agg #[Value.int IntKind.i64 n, Value.int IntKind.i64 d], Value.agg #[Value.int IntKind.i64 n, Value.int IntKind.i64 d], Value.agg #[Value.int IntKind.i64 m, Value.int IntKind.i64 e], Value.agg #[Value.int IntKind.i64 m, Value.int IntKind.i64 e], Value.tuple #[Value.agg #[Value.int IntKind.i64 p, Value.int IntKind.i64 q], Value.bool b], Value.agg #[Value.int IntKind.i64 p, Value.int IntKind.i64 q], Value.bool b, undef, undef, undef, undef, undef, undef, undef, undef, undef], defers := [] } ∧ Hid (Blk w' (w.heap.size) #[.int .i64 n, .int .i64 d] 23 ∧ Blk w' (w.heap.size + 1) #[.int .i64 m, .int .i64 e] 23 ∧ Blk w' (g) #[.int .i64 p, .int .i64 q] 24 ∧ Blk w' (h) #[.int .i64 p, .int .i64 q] 24 ∧ Below w.heap.size w w')) ?hq2 ?hr2
    case hr2 =>
      go_region_held3 (fun w' => w'.cell? ⟨w.heap.size, 0, none⟩ = some (.int .i64 n) ∧ w'.cell? ⟨w.heap.size, 1, none⟩ = some (.int .i64 d) ∧ w'.cell? ⟨w.heap.size + 1, 0, none⟩ = some (.int .i64 m) ∧ w'.cell? ⟨w.heap.size + 1, 1, none⟩ = some (.int .i64 e)) (go_keep)
        (first
          | (go_at_call 10; (with_reducible refine (toFraction_any n d _).mono ?_); rintro r v1 ⟨rfl, hbv1⟩
             have Xv10 : Blk v1 (w.heap.size) #[.int .i64 n, .int .i64 d] 23 := Blk.later (by (repeat (first | with_reducible exact Y0.out | with_reducible exact Blk.new _ _ _ | with_reducible refine Blk.drew ?_ | (with_reducible refine Blk.new' ?_ _ _; simp; done) | with_reducible refine Blk.alloc ?_ _))) hbv1
             have Xv11 : Blk v1 (w.heap.size + 1) #[.int .i64 m, .int .i64 e] 23 := Blk.later (by (repeat (first | with_reducible exact Y1.out | with_reducible exact Blk.new _ _ _ | with_reducible refine Blk.drew ?_ | (with_reducible refine Blk.new' ?_ _ _; simp; done) | with_reducible refine Blk.alloc ?_ _))) hbv1
             have XBv1 : Below w.heap.size w v1 := bw_call (by (repeat (first | with_reducible exact YB.out | with_reducible exact bw_refl _ | with_reducible refine bw_drew ?_ | with_reducible refine bw_alloc ?_ _))) hbv1
             have xsv1 := hbv1.size
             try simp at xsv1
             have xlv1 := Xv11.lt
             have qav1 := Xv10.cell 0 rfl; have qbv1 := Xv10.cell 1 rfl; have qcv1 := Xv11.cell 0 rfl; have qdv1 := Xv11.cell 1 rfl
             have nav1 : ¬ w.heap.size = v1.heap.size := by omega
             have nbv1 : ¬ w.heap.size + 1 = v1.heap.size := by omega
             have ncv1 : ¬ v1.heap.size = w.heap.size := by omega
             have ndv1 : ¬ v1.heap.size = w.heap.size + 1 := by omega
             have tav1 : w.heap.size < v1.heap.size := by omega
             have tbv1 : w.heap.size + 1 < v1.heap.size := by omega
             have Xv1e0 : Blk v1 (g) #[.int .i64 p, .int .i64 q] 24 := Blk.later (by (repeat (first | with_reducible exact Yg.out | with_reducible exact Blk.new _ _ _ | with_reducible refine Blk.drew ?_ | (with_reducible refine Blk.new' ?_ _ _; simp; done) | with_reducible refine Blk.alloc ?_ _))) hbv1
             (first | (have Dv1 : Blk v1 (w4.heap.size) #[.int .i64 0, .int .i64 0] 24 := (Blk.drew (Blk.new' (by simp) _ _)).later hbv1) | skip))
          | (go_at_call 10; (with_reducible refine (toFraction_any m e _).mono ?_); rintro r v2 ⟨rfl, hbv2⟩
             have Xv20 : Blk v2 (w.heap.size) #[.int .i64 n, .int .i64 d] 23 := Blk.later (by (repeat (first | with_reducible exact Xv10 | with_reducible exact Blk.new _ _ _ | with_reducible refine Blk.drew ?_ | (with_reducible refine Blk.new' ?_ _ _; simp; done) | with_reducible refine Blk.alloc ?_ _))) hbv2
             have Xv21 : Blk v2 (w.heap.size + 1) #[.int .i64 m, .int .i64 e] 23 := Blk.later (by (repeat (first | with_reducible exact Xv11 | with_reducible exact Blk.new _ _ _ | with_reducible refine Blk.drew ?_ | (with_reducible refine Blk.new' ?_ _ _; simp; done) | with_reducible refine Blk.alloc ?_ _))) hbv2
             have XBv2 : Below w.heap.size w v2 := bw_call (by (repeat (first | with_reducible exact XBv1 | with_reducible exact bw_refl _ | with_reducible refine bw_drew ?_ | with_reducible refine bw_alloc ?_ _))) hbv2
             have xsv2 := hbv2.size
             try simp at xsv2
             have xlv2 := Xv21.lt
             have qav2 := Xv20.cell 0 rfl; have qbv2 := Xv20.cell 1 rfl; have qcv2 := Xv21.cell 0 rfl; have qdv2 := Xv21.cell 1 rfl
             have nav2 : ¬ w.heap.size = v2.heap.size := by omega
             have nbv2 : ¬ w.heap.size + 1 = v2.heap.size := by omega
             have ncv2 : ¬ v2.heap.size = w.heap.size := by omega
             have ndv2 : ¬ v2.heap.size = w.heap.size + 1 := by omega
             have tav2 : w.heap.size < v2.heap.size := by omega
             have tbv2 : w.heap.size + 1 < v2.heap.size := by omega
             have Xv2e0 : Blk v2 (g) #[.int .i64 p, .int .i64 q] 24 := Blk.later (by (repeat (first | with_reducible exact Xv1e0 | with_reducible exact Blk.new _ _ _ | with_reducible refine Blk.drew ?_ | (with_reducible refine Blk.new' ?_ _ _; simp; done) | with_reducible refine Blk.alloc ?_ _))) hbv2
             (first | (have Dv2 := Blk.later Dv1 hbv2; clear Dv1) | (have zz : Blk (v1.alloc (.cells #[.int .i64 0, .int .i64 0] 24)) (v1.heap.size) #[.int .i64 0, .int .i64 0] 24 := Blk.new _ _ _; have Dv2 := Blk.later zz hbv2; clear zz) | skip))
          | (go_at_call 18; refine (AddFractions_any n d m e _).mono ?_; rw [hp.out, hq.out, hb.out]; rintro r v3 ⟨rfl, hbv3⟩
             have Xv30 : Blk v3 (w.heap.size) #[.int .i64 n, .int .i64 d] 23 := Blk.later (by (repeat (first | with_reducible exact Xv20 | with_reducible exact Blk.new _ _ _ | with_reducible refine Blk.drew ?_ | (with_reducible refine Blk.new' ?_ _ _; simp; done) | with_reducible refine Blk.alloc ?_ _))) hbv3
             have Xv31 : Blk v3 (w.heap.size + 1) #[.int .i64 m, .int .i64 e] 23 := Blk.later (by (repeat (first | with_reducible exact Xv21 | with_reducible exact Blk.new _ _ _ | with_reducible refine Blk.drew ?_ | (with_reducible refine Blk.new' ?_ _ _; simp; done) | with_reducible refine Blk.alloc ?_ _))) hbv3
             have XBv3 : Below w.heap.size w v3 := bw_call (by (repeat (first | with_reducible exact XBv2 | with_reducible exact bw_refl _ | with_reducible refine bw_drew ?_ | with_reducible refine bw_alloc ?_ _))) hbv3
             have xsv3 := hbv3.size
             try simp at xsv3
             have xlv3 := Xv31.lt
             have qav3 := Xv30.cell 0 rfl; have qbv3 := Xv30.cell 1 rfl; have qcv3 := Xv31.cell 0 rfl; have qdv3 := Xv31.cell 1 rfl
             have nav3 : ¬ w.heap.size = v3.heap.size := by omega
             have nbv3 : ¬ w.heap.size + 1 = v3.heap.size := by omega
             have ncv3 : ¬ v3.heap.size = w.heap.size := by omega
             have ndv3 : ¬ v3.heap.size = w.heap.size + 1 := by omega
             have tav3 : w.heap.size < v3.heap.size := by omega
             have tbv3 : w.heap.size + 1 < v3.heap.size := by omega
             have Xv3e0 : Blk v3 (g) #[.int .i64 p, .int .i64 q] 24 := Blk.later (by (repeat (first | with_reducible exact Xv2e0 | with_reducible exact Blk.new _ _ _ | with_reducible refine Blk.drew ?_ | (with_reducible refine Blk.new' ?_ _ _; simp; done) | with_reducible refine Blk.alloc ?_ _))) hbv3
             (first | (have Dv3 := Blk.later Dv2 hbv3; clear Dv2) | (have zz : Blk (v2.alloc (.cells #[.int .i64 0, .int .i64 0] 24)) (v2.heap.size) #[.int .i64 0, .int .i64 0] 24 := Blk.new _ _ _; have Dv3 := Blk.later zz hbv3; clear zz) | skip)
             try (have g0 := Dv3.cell 0 rfl; have g1 := Dv3.cell 1 rfl; have e0 := Dv3.free 0; have e1 := Dv3.free 1)))
      all_goals first
        | exact ⟨rfl, _, rfl, Lib.hid ⟨Xv30.alloc _, Xv31.alloc _, Xv3e0.alloc _, Blk.new v3 _ _, bw_alloc XBv3 _⟩⟩
        | exact ⟨rfl, _, rfl, Lib.hid ⟨(Xv30.far (by simp <;> omega) _).far (by simp <;> omega) _, (Xv31.far (by simp <;> omega) _).far (by simp <;> omega) _, (Xv3e0.far (by simp <;> omega) _).far (by simp <;> omega) _, Dv3.set2 _ _, bw_setCell (bw_setCell XBv3 (by simp <;> omega) _) (by simp <;> omega) _⟩⟩
    case hq2 =>
      rintro ex a' w5 ⟨rfl, h, rfl, H2⟩
      have Zg := Lib.hid H2.out.2.2.1
      have Zh := Lib.hid H2.out.2.2.2.1
      have ZB := Lib.hid H2.out.2.2.2.2
      clear H2 q00 q01 q10 q11 t0 t1 z0 z1 y0 y1 Y0 Y1 Yg YB lg l1
      have q00 := Zg.out.cell 0 rfl
      have q01 := Zg.out.cell 1 rfl
      have q10 := Zh.out.cell 0 rfl
      have q11 := Zh.out.cell 1 rfl
      go_wp2_with fail
      refine (eqFraction_same p q _).mono ?_
      rintro r w6 ⟨rfl, hb6⟩
      have ZB6 := Lib.hid (bw_call ZB.out hb6)
      clear hb6
      go_wp2
      go_ret
      exact ⟨rfl, ZB6.out⟩
set_option maxRecDepth 100000 in
set_option maxHeartbeats 4000000 in
theorem FnExactSubFractions_walk (n d m e : Int) (w : World) (w_n : (Lit.int .i64 n).wf = true) (w_d : (Lit.int .i64 d).wf = true) (w_m : (Lit.int .i64 m).wf = true) (w_e : (Lit.int .i64 e).wf = true) :
    Calls Try.prog 7 #[.agg #[.int .i64 n, .int .i64 d], .agg #[.int .i64 m, .int .i64 e]] w fun r w' => r = .returned (.bool true) ∧ Below w.heap.size w w' := by
  clear w_n w_d w_m w_e
  obtain ⟨p, hp⟩ : ∃ p, Hid (cmN n d m e (n * e - m * d) (d * e) = p) := ⟨_, Lib.hid rfl⟩
  obtain ⟨q, hq⟩ : ∃ p, Hid (cmD n d m e (n * e - m * d) (d * e) = p) := ⟨_, Lib.hid rfl⟩
  obtain ⟨b, hb⟩ : ∃ p, Hid (cmB n d m e (n * e - m * d) (d * e) = p) := ⟨_, Lib.hid rfl⟩
  have t0 : w.heap.size < w.heap.size + 1 + 1 := by omega
  have t1 : w.heap.size + 1 < w.heap.size + 1 + 1 := by omega
  have z0 : ¬ w.heap.size = w.heap.size + 1 + 1 := by omega
  have z1 : ¬ w.heap.size + 1 = w.heap.size + 1 + 1 := by omega
  have y0 : ¬ w.heap.size + 1 + 1 = w.heap.size := by omega
  have y1 : ¬ w.heap.size + 1 + 1 = w.heap.size + 1 := by omega
  go_enter Try.func7, Try.ntmps7
  go_wp2_with fail
  refine Code.wp_mono (Q := fun ex a' w' => ex = Exit.normal ∧ ∃ g : Nat, a' = { tmps := #[Value.agg #[Value.int IntKind.i64 n, Value.int IntKind.i64 d], Value.agg #[Value.int IntKind.i64 m, Value.int IntKind.i64 e], Value.pointer (some { block := w.heap.size, off := 0 }), Value.pointer (some { block := w.heap.size + 1, off := 0 }), Value.bool false, Value.pointer (some { block := g, off := 0 }), Value.bool b, undef, undef, Value.tuple #[Value.agg #[Value.int IntKind.i64 p, Value.int IntKind.i64 q], Value.bool b], Value.agg #[Value.int IntKind.i64 n, Value.int IntKind.i64 d], Value.agg #[Value.int IntKind.i64 n, Value.int IntKind.i64 d], Value.agg #[Value.int IntKind.i64 m, Value.int IntKind.i64 e], Value.agg #[Value.int IntKind.i64 m, Value.int IntKind.i64 e], Value.tuple #[Value.agg #[Value.int IntKind.i64 p, Value.int IntKind.i64 q], Value.bool b], Value.agg #[Value.int IntKind.i64 p, Value.int IntKind.i64 q], Value.bool b, undef, undef, undef, undef, undef, undef, undef, undef, undef, undef, undef, undef, undef, undef, undef, undef, undef], defers := [] } ∧ Hid (Blk w' (w.heap.size) #[.int .i64 n, .int .i64 d] 23 ∧ Blk w' (w.heap.size + 1) #[.int .i64 m, .int .i64 e] 23 ∧ Blk w' (g) #[.int .i64 p, .int .i64 q] 24 ∧ Below w.heap.size w w')) ?hq ?hr
  case hr =>
    go_region_held3 (fun w' => w'.cell? ⟨w.heap.size, 0, none⟩ = some (.int .i64 n) ∧ w'.cell? ⟨w.heap.size, 1, none⟩ = some (.int .i64 d) ∧ w'.cell? ⟨w.heap.size + 1, 0, none⟩ = some (.int .i64 m) ∧ w'.cell? ⟨w.heap.size + 1, 1, none⟩ = some (.int .i64 e)) (go_keep)
      (first
        | (go_at_call 10; (with_reducible refine (toFraction_any n d _).mono ?_); rintro r u1 ⟨rfl, hbu1⟩
           have Xu10 : Blk u1 (w.heap.size) #[.int .i64 n, .int .i64 d] 23 := Blk.later (by (repeat (first | with_reducible exact rfl | with_reducible exact Blk.new _ _ _ | with_reducible refine Blk.drew ?_ | (with_reducible refine Blk.new' ?_ _ _; simp; done) | with_reducible refine Blk.alloc ?_ _))) hbu1
           have Xu11 : Blk u1 (w.heap.size + 1) #[.int .i64 m, .int .i64 e] 23 := Blk.later (by (repeat (first | with_reducible exact rfl | with_reducible exact Blk.new _ _ _ | with_reducible refine Blk.drew ?_ | (with_reducible refine Blk.new' ?_ _ _; simp; done) | with_reducible refine Blk.alloc ?_ _))) hbu1
           have XBu1 : Below w.heap.size w u1 := bw_call (by (repeat (first | with_reducible exact rfl | with_reducible exact bw_refl _ | with_reducible refine bw_drew ?_ | with_reducible refine bw_alloc ?_ _))) hbu1
           have xsu1 := hbu1.size
           try simp at xsu1
           have xlu1 := Xu11.lt
           have qau1 := Xu10.cell 0 rfl; have qbu1 := Xu10.cell 1 rfl; have qcu1 := Xu11.cell 0 rfl; have qdu1 := Xu11.cell 1 rfl
           have nau1 : ¬ w.heap.size = u1.heap.size := by omega
           have nbu1 : ¬ w.heap.size + 1 = u1.heap.size := by omega
           have ncu1 : ¬ u1.heap.size = w.heap.size := by omega
           have ndu1 : ¬ u1.heap.size = w.heap.size + 1 := by omega
           have tau1 : w.heap.size < u1.heap.size := by omega
           have tbu1 : w.heap.size + 1 < u1.heap.size := by omega
           (first | (have Du1 : Blk u1 ((w.heap.size + 1 + 1)) #[.int .i64 0, .int .i64 0] 24 := (Blk.drew (Blk.new' (by simp) _ _)).later hbu1) | skip))
        | (go_at_call 10; (with_reducible refine (toFraction_any m e _).mono ?_); rintro r u2 ⟨rfl, hbu2⟩
           have Xu20 : Blk u2 (w.heap.size) #[.int .i64 n, .int .i64 d] 23 := Blk.later (by (repeat (first | with_reducible exact Xu10 | with_reducible exact Blk.new _ _ _ | with_reducible refine Blk.drew ?_ | (with_reducible refine Blk.new' ?_ _ _; simp; done) | with_reducible refine Blk.alloc ?_ _))) hbu2
           have Xu21 : Blk u2 (w.heap.size + 1) #[.int .i64 m, .int .i64 e] 23 := Blk.later (by (repeat (first | with_reducible exact Xu11 | with_reducible exact Blk.new _ _ _ | with_reducible refine Blk.drew ?_ | (with_reducible refine Blk.new' ?_ _ _; simp; done) | with_reducible refine Blk.alloc ?_ _))) hbu2
           have XBu2 : Below w.heap.size w u2 := bw_call (by (repeat (first | with_reducible exact XBu1 | with_reducible exact bw_refl _ | with_reducible refine bw_drew ?_ | with_reducible refine bw_alloc ?_ _))) hbu2
           have xsu2 := hbu2.size
           try simp at xsu2
           have xlu2 := Xu21.lt
           have qau2 := Xu20.cell 0 rfl; have qbu2 := Xu20.cell 1 rfl; have qcu2 := Xu21.cell 0 rfl; have qdu2 := Xu21.cell 1 rfl
           have nau2 : ¬ w.heap.size = u2.heap.size := by omega
           have nbu2 : ¬ w.heap.size + 1 = u2.heap.size := by omega
           have ncu2 : ¬ u2.heap.size = w.heap.size := by omega
           have ndu2 : ¬ u2.heap.size = w.heap.size + 1 := by omega
           have tau2 : w.heap.size < u2.heap.size := by omega
           have tbu2 : w.heap.size + 1 < u2.heap.size := by omega
           (first | (have Du2 := Blk.later Du1 hbu2; clear Du1) | (have zz : Blk (u1.alloc (.cells #[.int .i64 0, .int .i64 0] 24)) (u1.heap.size) #[.int .i64 0, .int .i64 0] 24 := Blk.new _ _ _; have Du2 := Blk.later zz hbu2; clear zz) | skip))
        | (go_at_call 19; refine (sSubFractions_any n d m e _).mono ?_; rw [hp.out, hq.out, hb.out]; rintro r u3 ⟨rfl, hbu3⟩
           have Xu30 : Blk u3 (w.heap.size) #[.int .i64 n, .int .i64 d] 23 := Blk.later (by (repeat (first | with_reducible exact Xu20 | with_reducible exact Blk.new _ _ _ | with_reducible refine Blk.drew ?_ | (with_reducible refine Blk.new' ?_ _ _; simp; done) | with_reducible refine Blk.alloc ?_ _))) hbu3
           have Xu31 : Blk u3 (w.heap.size + 1) #[.int .i64 m, .int .i64 e] 23 := Blk.later (by (repeat (first | with_reducible exact Xu21 | with_reducible exact Blk.new _ _ _ | with_reducible refine Blk.drew ?_ | (with_reducible refine Blk.new' ?_ _ _; simp; done) | with_reducible refine Blk.alloc ?_ _))) hbu3
           have XBu3 : Below w.heap.size w u3 := bw_call (by (repeat (first | with_reducible exact XBu2 | with_reducible exact bw_refl _ | with_reducible refine bw_drew ?_ | with_reducible refine bw_alloc ?_ _))) hbu3
           have xsu3 := hbu3.size
           try simp at xsu3
           have xlu3 := Xu31.lt
           have qau3 := Xu30.cell 0 rfl; have qbu3 := Xu30.cell 1 rfl; have qcu3 := Xu31.cell 0 rfl; have qdu3 := Xu31.cell 1 rfl
           have nau3 : ¬ w.heap.size = u3.heap.size := by omega
           have nbu3 : ¬ w.heap.size + 1 = u3.heap.size := by omega
           have ncu3 : ¬ u3.heap.size = w.heap.size := by omega
           have ndu3 : ¬ u3.heap.size = w.heap.size + 1 := by omega
           have tau3 : w.heap.size < u3.heap.size := by omega
           have tbu3 : w.heap.size + 1 < u3.heap.size := by omega
           (first | (have Du3 := Blk.later Du2 hbu3; clear Du2) | (have zz : Blk (u2.alloc (.cells #[.int .i64 0, .int .i64 0] 24)) (u2.heap.size) #[.int .i64 0, .int .i64 0] 24 := Blk.new _ _ _; have Du3 := Blk.later zz hbu3; clear zz) | skip)
           try (have g0 := Du3.cell 0 rfl; have g1 := Du3.cell 1 rfl; have e0 := Du3.free 0; have e1 := Du3.free 1)))
    all_goals first
      | exact ⟨rfl, _, rfl, Lib.hid ⟨Xu30.alloc _, Xu31.alloc _, Blk.new u3 _ _, bw_alloc XBu3 _⟩⟩
      | exact ⟨rfl, _, rfl, Lib.hid ⟨(Xu30.far (by simp <;> omega) _).far (by simp <;> omega) _, (Xu31.far (by simp <;> omega) _).far (by simp <;> omega) _, Du3.set2 _ _, bw_setCell (bw_setCell XBu3 (by simp <;> omega) _) (by simp <;> omega) _⟩⟩
  case hq =>
    rintro ex a' w4 ⟨rfl, g, rfl, H1⟩
    clear t0 t1 z0 z1 y0 y1
    have Y0 := Lib.hid H1.out.1
    have Y1 := Lib.hid H1.out.2.1
    have Yg := Lib.hid H1.out.2.2.1
    have YB := Lib.hid H1.out.2.2.2
    have lg := Yg.out.lt
    have l1 := Y1.out.lt
    clear H1
    have q00 := Y0.out.cell 0 rfl
    have q01 := Y0.out.cell 1 rfl
    have q10 := Y1.out.cell 0 rfl
    have q11 := Y1.out.cell 1 rfl
    have t0 : w.heap.size < w4.heap.size := by omega
    have t1 : w.heap.size + 1 < w4.heap.size := by omega
    have z0 : ¬ w.heap.size = w4.heap.size := by omega
    have z1 : ¬ w.heap.size + 1 = w4.heap.size := by omega
    have y0 : ¬ w4.heap.size = w.heap.size := by omega
    have y1 : ¬ w4.heap.size = w.heap.size + 1 := by omega
    go_wp2_with fail
    refine Code.wp_mono (Q := fun ex a' w' => ex = Exit.normal ∧ ∃ h : Nat, a' = { tmps := #[Value.agg #[Value.int IntKind.i64 n, Value.int IntKind.i64 d], Value.agg #[Value.int IntKind.i64 m, Value.int IntKind.i64 e], Value.pointer (some { block := w.heap.size, off := 0 }), Value.pointer (some { block := w.heap.size + 1, off := 0 }), Value.bool false, Value.pointer (some { block := g, off := 0 }), Value.bool b, Value.pointer (some { block := h, off := 0 }), Value.bool b, Value.tuple #[Value.agg #[Value.int IntKind.i64 p, Value.int IntKind.i64 q], Value.bool b], Value.agg #[Value.int IntKind.i64 n, Value.int IntKind.i64 d], Value.agg #[Value.int IntKind.i64 n, Value.int IntKind.i64 d], Value.agg #[Value.int IntKind.i64 m, Value.int IntKind.i64 e], Value.agg #[Value.int IntKind.i64 m, Value.int IntKind.i64 e], Value.tuple #[Value.agg #[Value.int IntKind.i64 p, Value.int IntKind.i64 q], Value.bool b], Value.agg #[Value.int IntKind.i64 p, Value.int IntKind.i64 q], Value.bool b, Value.tuple #[Value.agg #[Value.int IntKind.i64 p, Value.int IntKind.i64 q], Value.bool b], Value.agg #[Value.int IntKind.i64 n, Value.int IntKind.i64 d], Value.agg #[Value.int IntKind.i64 n, Value.int IntKind.i64 d], Value.agg #[Value.int IntKind.i64 m, Value.int IntKind.i64 e], Value.agg #[Value.int IntKind.i64 m, Value.int IntKind.i64 e], Value.tuple #[Value.agg #[Value.int IntKind.i64 p, Value.int IntKind.i64 q], Value.bool b], Value.agg #[Value.int IntKind.i64 p, Value.int IntKind.i64 q], Value.bool b, undef, undef, undef, undef, undef, undef, undef, undef, undef], defers := [] } ∧ Hid (Blk w' (w.heap.size) #[.int .i64 n, .int .i64 d] 23 ∧ Blk w' (w.heap.size + 1) #[.int .i64 m, .int .i64 e] 23 ∧ Blk w' (g) #[.int .i64 p, .int .i64 q] 24 ∧ Blk w' (h) #[.int .i64 p, .int .i64 q] 24 ∧ Below w.heap.size w w')) ?hq2 ?hr2
    case hr2 =>
      go_region_held3 (fun w' => w'.cell? ⟨w.heap.size, 0, none⟩ = some (.int .i64 n) ∧ w'.cell? ⟨w.heap.size, 1, none⟩ = some (.int .i64 d) ∧ w'.cell? ⟨w.heap.size + 1, 0, none⟩ = some (.int .i64 m) ∧ w'.cell? ⟨w.heap.size + 1, 1, none⟩ = some (.int .i64 e)) (go_keep)
        (first
          | (go_at_call 10; (with_reducible refine (toFraction_any n d _).mono ?_); rintro r v1 ⟨rfl, hbv1⟩
             have Xv10 : Blk v1 (w.heap.size) #[.int .i64 n, .int .i64 d] 23 := Blk.later (by (repeat (first | with_reducible exact Y0.out | with_reducible exact Blk.new _ _ _ | with_reducible refine Blk.drew ?_ | (with_reducible refine Blk.new' ?_ _ _; simp; done) | with_reducible refine Blk.alloc ?_ _))) hbv1
             have Xv11 : Blk v1 (w.heap.size + 1) #[.int .i64 m, .int .i64 e] 23 := Blk.later (by (repeat (first | with_reducible exact Y1.out | with_reducible exact Blk.new _ _ _ | with_reducible refine Blk.drew ?_ | (with_reducible refine Blk.new' ?_ _ _; simp; done) | with_reducible refine Blk.alloc ?_ _))) hbv1
             have XBv1 : Below w.heap.size w v1 := bw_call (by (repeat (first | with_reducible exact YB.out | with_reducible exact bw_refl _ | with_reducible refine bw_drew ?_ | with_reducible refine bw_alloc ?_ _))) hbv1
             have xsv1 := hbv1.size
             try simp at xsv1
             have xlv1 := Xv11.lt
             have qav1 := Xv10.cell 0 rfl; have qbv1 := Xv10.cell 1 rfl; have qcv1 := Xv11.cell 0 rfl; have qdv1 := Xv11.cell 1 rfl
             have nav1 : ¬ w.heap.size = v1.heap.size := by omega
             have nbv1 : ¬ w.heap.size + 1 = v1.heap.size := by omega
             have ncv1 : ¬ v1.heap.size = w.heap.size := by omega
             have ndv1 : ¬ v1.heap.size = w.heap.size + 1 := by omega
             have tav1 : w.heap.size < v1.heap.size := by omega
             have tbv1 : w.heap.size + 1 < v1.heap.size := by omega
             have Xv1e0 : Blk v1 (g) #[.int .i64 p, .int .i64 q] 24 := Blk.later (by (repeat (first | with_reducible exact Yg.out | with_reducible exact Blk.new _ _ _ | with_reducible refine Blk.drew ?_ | (with_reducible refine Blk.new' ?_ _ _; simp; done) | with_reducible refine Blk.alloc ?_ _))) hbv1
             (first | (have Dv1 : Blk v1 (w4.heap.size) #[.int .i64 0, .int .i64 0] 24 := (Blk.drew (Blk.new' (by simp) _ _)).later hbv1) | skip))
          | (go_at_call 10; (with_reducible refine (toFraction_any m e _).mono ?_); rintro r v2 ⟨rfl, hbv2⟩
             have Xv20 : Blk v2 (w.heap.size) #[.int .i64 n, .int .i64 d] 23 := Blk.later (by (repeat (first | with_reducible exact Xv10 | with_reducible exact Blk.new _ _ _ | with_reducible refine Blk.drew ?_ | (with_reducible refine Blk.new' ?_ _ _; simp; done) | with_reducible refine Blk.alloc ?_ _))) hbv2
             have Xv21 : Blk v2 (w.heap.size + 1) #[.int .i64 m, .int .i64 e] 23 := Blk.later (by (repeat (first | with_reducible exact Xv11 | with_reducible exact Blk.new _ _ _ | with_reducible refine Blk.drew ?_ | (with_reducible refine Blk.new' ?_ _ _; simp; done) | with_reducible refine Blk.alloc ?_ _))) hbv2
             have XBv2 : Below w.heap.size w v2 := bw_call (by (repeat (first | with_reducible exact XBv1 | with_reducible exact bw_refl _ | with_reducible refine bw_drew ?_ | with_reducible refine bw_alloc ?_ _))) hbv2
             have xsv2 := hbv2.size
             try simp at xsv2
             have xlv2 := Xv21.lt
             have qav2 := Xv20.cell 0 rfl; have qbv2 := Xv20.cell 1 rfl; have qcv2 := Xv21.cell 0 rfl; have qdv2 := Xv21.cell 1 rfl
             have nav2 : ¬ w.heap.size = v2.heap.size := by omega
             have nbv2 : ¬ w.heap.size + 1 = v2.heap.size := by omega
             have ncv2 : ¬ v2.heap.size = w.heap.size := by omega
             have ndv2 : ¬ v2.heap.size = w.heap.size + 1 := by omega
             have tav2 : w.heap.size < v2.heap.size := by omega
             have tbv2 : w.heap.size + 1 < v2.heap.size := by omega
             have Xv2e0 : Blk v2 (g) #[.int .i64 p, .int .i64 q] 24 := Blk.later (by (repeat (first | with_reducible exact Xv1e0 | with_reducible exact Blk.new _ _ _ | with_reducible refine Blk.drew ?_ | (with_reducible refine Blk.new' ?_ _ _; simp; done) | with_reducible refine Blk.alloc ?_ _))) hbv2
             (first | (have Dv2 := Blk.later Dv1 hbv2; clear Dv1) | (have zz : Blk (v1.alloc (.cells #[.int .i64 0, .int .i64 0] 24)) (v1.heap.size) #[.int .i64 0, .int .i64 0] 24 := Blk.new _ _ _; have Dv2 := Blk.later zz hbv2; clear zz) | skip))
          | (go_at_call 20; refine (SubFractions_any n d m e _).mono ?_; rw [hp.out, hq.out, hb.out]; rintro r v3 ⟨rfl, hbv3⟩
             have Xv30 : Blk v3 (w.heap.size) #[.int .i64 n, .int .i64 d] 23 := Blk.later (by (repeat (first | with_reducible exact Xv20 | with_reducible exact Blk.new _ _ _ | with_reducible refine Blk.drew ?_ | (with_reducible refine Blk.new' ?_ _ _; simp; done) | with_reducible refine Blk.alloc ?_ _))) hbv3
             have Xv31 : Blk v3 (w.heap.size + 1) #[.int .i64 m, .int .i64 e] 23 := Blk.later (by (repeat (first | with_reducible exact Xv21 | with_reducible exact Blk.new _ _ _ | with_reducible refine Blk.drew ?_ | (with_reducible refine Blk.new' ?_ _ _; simp; done) | with_reducible refine Blk.alloc ?_ _))) hbv3
             have XBv3 : Below w.heap.size w v3 := bw_call (by (repeat (first | with_reducible exact XBv2 | with_reducible exact bw_refl _ | with_reducible refine bw_drew ?_ | with_reducible refine bw_alloc ?_ _))) hbv3
             have xsv3 := hbv3.size
             try simp at xsv3
             have xlv3 := Xv31.lt
             have qav3 := Xv30.cell 0 rfl; have qbv3 := Xv30.cell 1 rfl; have qcv3 := Xv31.cell 0 rfl; have qdv3 := Xv31.cell 1 rfl
             have nav3 : ¬ w.heap.size = v3.heap.size := by omega
             have nbv3 : ¬ w.heap.size + 1 = v3.heap.size := by omega
             have ncv3 : ¬ v3.heap.size = w.heap.size := by omega
             have ndv3 : ¬ v3.heap.size = w.heap.size + 1 := by omega
             have tav3 : w.heap.size < v3.heap.size := by omega
             have tbv3 : w.heap.size + 1 < v3.heap.size := by omega
             have Xv3e0 : Blk v3 (g) #[.int .i64 p, .int .i64 q] 24 := Blk.later (by (repeat (first | with_reducible exact Xv2e0 | with_reducible exact Blk.new _ _ _ | with_reducible refine Blk.drew ?_ | (with_reducible refine Blk.new' ?_ _ _; simp; done) | with_reducible refine Blk.alloc ?_ _))) hbv3
             (first | (have Dv3 := Blk.later Dv2 hbv3; clear Dv2) | (have zz : Blk (v2.alloc (.cells #[.int .i64 0, .int .i64 0] 24)) (v2.heap.size) #[.int .i64 0, .int .i64 0] 24 := Blk.new _ _ _; have Dv3 := Blk.later zz hbv3; clear zz) | skip)
             try (have g0 := Dv3.cell 0 rfl; have g1 := Dv3.cell 1 rfl; have e0 := Dv3.free 0; have e1 := Dv3.free 1)))
      all_goals first
        | exact ⟨rfl, _, rfl, Lib.hid ⟨Xv30.alloc _, Xv31.alloc _, Xv3e0.alloc _, Blk.new v3 _ _, bw_alloc XBv3 _⟩⟩
        | exact ⟨rfl, _, rfl, Lib.hid ⟨(Xv30.far (by simp <;> omega) _).far (by simp <;> omega) _, (Xv31.far (by simp <;> omega) _).far (by simp <;> omega) _, (Xv3e0.far (by simp <;> omega) _).far (by simp <;> omega) _, Dv3.set2 _ _, bw_setCell (bw_setCell XBv3 (by simp <;> omega) _) (by simp <;> omega) _⟩⟩
    case hq2 =>
      rintro ex a' w5 ⟨rfl, h, rfl, H2⟩
      have Zg := Lib.hid H2.out.2.2.1
      have Zh := Lib.hid H2.out.2.2.2.1
      have ZB := Lib.hid H2.out.2.2.2.2
      clear H2 q00 q01 q10 q11 t0 t1 z0 z1 y0 y1 Y0 Y1 Yg YB lg l1
      have q00 := Zg.out.cell 0 rfl
      have q01 := Zg.out.cell 1 rfl
      have q10 := Zh.out.cell 0 rfl
      have q11 := Zh.out.cell 1 rfl
      go_wp2_with fail
      refine (eqFraction_same p q _).mono ?_
      rintro r w6 ⟨rfl, hb6⟩
      have ZB6 := Lib.hid (bw_call ZB.out hb6)
      clear hb6
      go_wp2
      go_ret
      exact ⟨rfl, ZB6.out⟩
end Go.Proofs.Ytcmmcffglmcegaa
