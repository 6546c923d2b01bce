/-
  Walk of the law FnExactPowerOfX: it returns true for every argument. No condition.
-/
import Derived.Test.YtkepnjdomlfpdaaC23
namespace Go.Proofs.Ytkepnjdomlfpdaa
open Go.RowKit
set_option linter.unusedVariables false

theorem FnExactPowerOfX_walk  (n p : Int) (w : World) (w_n : (Lit.int .i64 n).wf = true) (w_p : (Lit.int .i64 p).wf = true) :
    Calls Try.prog 10 #[.int .i64 n, .int .i64 p] w fun e w' => e = .returned (.bool true) ∧ Below w.heap.size w w' := by
  have b_n := i64b w_n
  have b_p := i64b w_p
  clear w_n
  clear w_p
  go_enter Try.func10, Try.ntmps10
  go_wp2_with fail
  refine (sPowerOfX_any n p _).mono ?_
  rintro e w2 ⟨rfl, hb2⟩
  go_wp2_with fail
  refine (PowerOfX_any n p _).mono ?_
  rintro e w4 ⟨rfl, hb4⟩
  go_wp2
  go_ret
  exact ⟨rfl, bw_call hb2 hb4⟩
end Go.Proofs.Ytkepnjdomlfpdaa
