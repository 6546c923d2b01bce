/-
  Walks of the laws FnExactMulPolys, FnExactDividePolys and FnExactGcdPolys: each returns true for every argument. No condition.
-/
import Derived.Test.YtkepnjdomlfpdaaC20
namespace Go.Proofs.Ytkepnjdomlfpdaa
open Go.RowKit
set_option linter.unusedVariables false

theorem FnExactMulPolys_walk  (a b : Int) (w : World) (w_a : (Lit.int .i64 a).wf = true) (w_b : (Lit.int .i64 b).wf = true) :
    Calls Try.prog 3 #[.int .i64 a, .int .i64 b] w fun e w' => e = .returned (.bool true) ∧ Below w.heap.size w w' := by
  have b_a := i64b w_a
  have b_b := i64b w_b
  clear w_a
  clear w_b
  go_enter Try.func3, Try.ntmps3
  go_wp2_with fail
  refine (sMulPolys_any a b _).mono ?_
  rintro e w2 ⟨rfl, hb2⟩
  go_wp2_with fail
  refine (MulPolys_any a b _).mono ?_
  rintro e w4 ⟨rfl, hb4⟩
  go_wp2
  go_ret
  exact ⟨rfl, bw_call hb2 hb4⟩
theorem FnExactDividePolys_walk  (a b : Int) (w : World) (w_a : (Lit.int .i64 a).wf = true) (w_b : (Lit.int .i64 b).wf = true) :
    Calls Try.prog 5 #[.int .i64 a, .int .i64 b] w fun e w' => e = .returned (.bool true) ∧ Below w.heap.size w w' := by
  have b_a := i64b w_a
  have b_b := i64b w_b
  clear w_a
  clear w_b
  go_enter Try.func5, Try.ntmps5
  go_wp2_with fail
  refine (sDividePolys_any a b _).mono ?_
  rintro e w2 ⟨rfl, hb2⟩
  go_wp2_with fail
  refine (DividePolys_any a b _).mono ?_
  rintro e w4 ⟨rfl, hb4⟩
  go_wp2
  go_ret
  exact ⟨rfl, bw_call hb2 hb4⟩
theorem FnExactGcdPolys_walk  (a b : Int) (w : World) (w_a : (Lit.int .i64 a).wf = true) (w_b : (Lit.int .i64 b).wf = true) :
    Calls Try.prog 8 #[.int .i64 a, .int .i64 b] w fun e w' => e = .returned (.bool true) ∧ Below w.heap.size w w' := by
  have b_a := i64b w_a
  have b_b := i64b w_b
  clear w_a
  clear w_b
  go_enter Try.func8, Try.ntmps8
  go_wp2_with fail
  refine (sGcdPolys_any a b _).mono ?_
  rintro e w2 ⟨rfl, hb2⟩
  go_wp2_with fail
  refine (GcdPolys_any a b _).mono ?_
  rintro e w4 ⟨rfl, hb4⟩
  go_wp2
  go_ret
  exact ⟨rfl, bw_call hb2 hb4⟩
end Go.Proofs.Ytkepnjdomlfpdaa
