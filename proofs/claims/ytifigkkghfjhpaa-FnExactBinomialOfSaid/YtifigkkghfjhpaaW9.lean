/-
  Walk of the law FnExactBinomialOf: it returns true for every argument. No condition.
-/
import Derived.Test.YtifigkkghfjhpaaC18
namespace Go.Proofs.Ytifigkkghfjhpaa
open Go.RowKit
set_option linter.unusedVariables false

theorem FnExactBinomialOf_walk  (n k : Int) (w : World) (w_n : (Lit.int .i64 n).wf = true) (w_k : (Lit.int .i64 k).wf = true) :
    Calls Try.prog 11 #[.int .i64 n, .int .i64 k] w fun e w' => e = .returned (.bool true) ∧ Below w.heap.size w w' := by
  have b_n := i64b w_n
  have b_k := i64b w_k
  clear w_n
  clear w_k
  go_enter Try.func11, Try.ntmps11
  go_wp2_with fail
  refine (sBinomialOf_any n k _).mono ?_
  rintro e w2 ⟨rfl, hb2⟩
  go_wp2_with fail
  refine (BinomialOf_any n k _).mono ?_
  rintro e w4 ⟨rfl, hb4⟩
  go_wp2
  go_ret
  exact ⟨rfl, bw_call hb2 hb4⟩
end Go.Proofs.Ytifigkkghfjhpaa
