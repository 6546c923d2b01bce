/-
  Walks of the laws FnExactJumpState, FnExactPowerCongruence and FnExactBackCongruence: each returns true for every argument. No condition.
-/
import Derived.Test.YtifigkkghfjhpaaC13
namespace Go.Proofs.Ytifigkkghfjhpaa
open Go.RowKit
set_option linter.unusedVariables false

theorem FnExactJumpState_walk (m f a : Int) (x n : Int) (w : World) (w_m : (Lit.int .i64 m).wf = true) (w_f : (Lit.int .i64 f).wf = true) (w_a : (Lit.int .i64 a).wf = true) (w_x : (Lit.int .i64 x).wf = true) (w_n : (Lit.int .i64 n).wf = true) :
    Calls Try.prog 5 #[.agg #[.int .i64 m, .int .i64 f, .int .i64 a], .int .i64 x, .int .i64 n] w fun e w' => e = .returned (.bool true) ∧ Below w.heap.size w w' := by
  have b_m := i64b w_m
  have b_f := i64b w_f
  have b_a := i64b w_a
  have b_x := i64b w_x
  have b_n := i64b w_n
  clear w_m
  clear w_f
  clear w_a
  clear w_x
  clear w_n
  go_enter Try.func5, Try.ntmps5
  go_wp2_with fail
  refine (toCongruence_any m f a _).mono ?_
  rintro e w1 ⟨rfl, hb1⟩
  go_wp2_with fail
  refine (sJumpState_any m f a x n _).mono ?_
  rintro e w2 ⟨rfl, hb2⟩
  have hb := bw_call hb1 hb2
  have c0 := cell_new hb 0 rfl
  have c1 := cell_new hb 1 rfl
  have c2 := cell_new hb 2 rfl
  go_wp2_with fail
  refine (toCongruence_any m f a _).mono ?_
  rintro e w3 ⟨rfl, hb3⟩
  go_wp2_with fail
  refine (JumpState_any m f a x n _).mono ?_
  rintro e w4 ⟨rfl, hb4⟩
  go_wp2
  go_ret
  exact ⟨rfl, bw_call (bw_alloc (bw_refl _) _) (bw_call hb (bw_call hb3 hb4))⟩
theorem FnExactPowerCongruence_walk (m f a : Int) (n : Int) (w : World) (w_m : (Lit.int .i64 m).wf = true) (w_f : (Lit.int .i64 f).wf = true) (w_a : (Lit.int .i64 a).wf = true) (w_n : (Lit.int .i64 n).wf = true) :
    Calls Try.prog 7 #[.agg #[.int .i64 m, .int .i64 f, .int .i64 a], .int .i64 n] w fun e w' => e = .returned (.bool true) ∧ Below w.heap.size w w' := by
  clear w_m w_f w_a w_n
  go_enter Try.func7, Try.ntmps7
  go_wp2_with fail
  refine (toCongruence_any m f a _).mono ?_
  rintro e w1 ⟨rfl, hb1⟩
  go_wp2_with fail
  refine (sPowerCongruence_any m f a n _).mono ?_
  rintro e w2 ⟨rfl, hb2⟩
  have hb := bw_call hb1 hb2
  have c0 := cell_new hb 0 rfl
  have c1 := cell_new hb 1 rfl
  have c2 := cell_new hb 2 rfl
  have z2 : w.heap.size < w2.heap.size := by have := hb.size; simp at this; omega
  have n2 : ¬ w.heap.size = w2.heap.size := by omega
  go_wp2_with fail
  refine (toCongruence_any m f a _).mono ?_
  rintro e w3 ⟨rfl, hb3⟩
  go_wp2_with fail
  refine (PowerCongruence_any m f a n _).mono ?_
  rintro e w4 ⟨rfl, hb4⟩
  have hd := bw_call hb3 hb4
  have d0 := cell_new hd 0 rfl
  have d1 := cell_new hd 1 rfl
  have d2 := cell_new hd 2 rfl
  have z4 : w2.heap.size < w4.heap.size := by have := hd.size; simp at this; omega
  have n4 : ¬ w2.heap.size = w4.heap.size := by omega
  go_wp2_with fail
  refine (eqCongruence_same _ _ _ _).mono ?_
  rintro e w5 ⟨rfl, hb5⟩
  go_wp2
  go_ret
  exact ⟨rfl, bw_call (bw_alloc (bw_refl _) _) (bw_call hb (bw_call (bw_alloc (bw_refl _) _) (bw_call hd (bw_call (bw_alloc (bw_refl _) _) hb5))))⟩
theorem FnExactBackCongruence_walk (m f a : Int)  (w : World) (w_m : (Lit.int .i64 m).wf = true) (w_f : (Lit.int .i64 f).wf = true) (w_a : (Lit.int .i64 a).wf = true) :
    Calls Try.prog 6 #[.agg #[.int .i64 m, .int .i64 f, .int .i64 a]] w fun e w' => e = .returned (.bool true) ∧ Below w.heap.size w w' := by
  clear w_m w_f w_a
  go_enter Try.func6, Try.ntmps6
  go_wp2_with fail
  refine (toCongruence_any m f a _).mono ?_
  rintro e w1 ⟨rfl, hb1⟩
  go_wp2_with fail
  refine (sBackCongruence_any m f a _).mono ?_
  rintro e w2 ⟨rfl, hb2⟩
  have hb := bw_call hb1 hb2
  have c0 := cell_new hb 0 rfl
  have c1 := cell_new hb 1 rfl
  have c2 := cell_new hb 2 rfl
  have z2 : w.heap.size < w2.heap.size := by have := hb.size; simp at this; omega
  have n2 : ¬ w.heap.size = w2.heap.size := by omega
  go_wp2_with fail
  refine (toCongruence_any m f a _).mono ?_
  rintro e w3 ⟨rfl, hb3⟩
  go_wp2_with fail
  refine (BackCongruence_any m f a _).mono ?_
  rintro e w4 ⟨rfl, hb4⟩
  have hd := bw_call hb3 hb4
  have d0 := cell_new hd 0 rfl
  have d1 := cell_new hd 1 rfl
  have d2 := cell_new hd 2 rfl
  have z4 : w2.heap.size < w4.heap.size := by have := hd.size; simp at this; omega
  have n4 : ¬ w2.heap.size = w4.heap.size := by omega
  go_wp2_with fail
  refine (eqCongruence_same _ _ _ _).mono ?_
  rintro e w5 ⟨rfl, hb5⟩
  go_wp2
  go_ret
  exact ⟨rfl, bw_call (bw_alloc (bw_refl _) _) (bw_call hb (bw_call (bw_alloc (bw_refl _) _) (bw_call hd (bw_call (bw_alloc (bw_refl _) _) hb5))))⟩
end Go.Proofs.Ytifigkkghfjhpaa
