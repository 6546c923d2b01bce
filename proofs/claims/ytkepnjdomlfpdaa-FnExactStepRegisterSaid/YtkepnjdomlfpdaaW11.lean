/-
  Walk of the law FnExactStepRegister: it returns true for every argument. No condition.
-/
import Derived.Test.YtkepnjdomlfpdaaC21
namespace Go.Proofs.Ytkepnjdomlfpdaa
open Go.RowKit
set_option linter.unusedVariables false

theorem FnExactStepRegister_walk (wd tp : Int) (s : Int) (w : World) (w_wd : (Lit.int .i64 wd).wf = true) (w_tp : (Lit.int .i64 tp).wf = true) (w_s : (Lit.int .i64 s).wf = true) :
    Calls Try.prog 7 #[.agg #[.int .i64 wd, .int .i64 tp], .int .i64 s] w fun e w' => e = .returned (.bool true) ∧ Below w.heap.size w w' := by
  have b_wd := i64b w_wd
  have b_tp := i64b w_tp
  have b_s := i64b w_s
  clear w_wd
  clear w_tp
  clear w_s
  go_enter Try.func7, Try.ntmps7
  go_wp2_with fail
  refine (toRegister_any wd tp _).mono ?_
  rintro e w1 ⟨rfl, hb1⟩
  go_wp2_with fail
  refine (sStepRegister_any wd tp s _).mono ?_
  rintro e w2 ⟨rfl, hb2⟩
  have hb := bw_call hb1 hb2
  have c0 := cell_new hb 0 rfl
  have c1 := cell_new hb 1 rfl
  go_wp2_with fail
  refine (toRegister_any wd tp _).mono ?_
  rintro e w3 ⟨rfl, hb3⟩
  go_wp2_with fail
  refine (StepRegister_any wd tp s _).mono ?_
  rintro e w4 ⟨rfl, hb4⟩
  go_wp2
  go_ret
  exact ⟨rfl, bw_call (bw_alloc (bw_refl _) _) (bw_call hb (bw_call hb3 hb4))⟩
end Go.Proofs.Ytkepnjdomlfpdaa
