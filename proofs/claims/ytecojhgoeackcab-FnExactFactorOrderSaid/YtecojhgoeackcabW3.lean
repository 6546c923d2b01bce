/-
  Walks of the laws FnExactPolyOf, FnExactBitsOf, FnExactNextState, FnExactFactorOrder and FnExactValidFraction: each returns true for every argument. No condition.
-/
import Derived.Test.YtecojhgoeackcabC3
import Derived.Test.YtecojhgoeackcabC5
import Derived.Test.YtecojhgoeackcabC6
import Derived.Test.YtecojhgoeackcabC7
namespace Go.Proofs.Ytecojhgoeackcab
open Go.RowKit
set_option linter.unusedVariables false

theorem FnExactPolyOf_walk (wd tp : Int)  (w : World) (w_wd : (Lit.int .i64 wd).wf = true) (w_tp : (Lit.int .i64 tp).wf = true) :
    Calls Try.prog 3 #[.agg #[.int .i64 wd, .int .i64 tp]] w fun e w' => e = .returned (.bool true) ∧ Below w.heap.size w w' := by
  have b_wd := i64b w_wd
  have b_tp := i64b w_tp
  clear w_wd
  clear w_tp
  go_enter Try.func3, Try.ntmps3
  go_wp2_with fail
  refine (toRegister_any wd tp _).mono ?_
  rintro e w1 ⟨rfl, hb1⟩
  go_wp2_with fail
  refine (sPolyOf_any wd tp _).mono ?_
  rintro e w2 ⟨rfl, hb2⟩
  have hb := bw_call hb1 hb2
  have c0 := cell_new hb 0 rfl
  have c1 := cell_new hb 1 rfl
  go_wp2_with fail
  refine (toRegister_any wd tp _).mono ?_
  rintro e w3 ⟨rfl, hb3⟩
  go_wp2_with fail
  refine (PolyOf_any wd tp _).mono ?_
  rintro e w4 ⟨rfl, hb4⟩
  go_wp2
  go_ret
  exact ⟨rfl, bw_call (bw_alloc (bw_refl _) _) (bw_call hb (bw_call hb3 hb4))⟩
theorem FnExactNextState_walk (m f a : Int) (x : Int) (w : World) (w_m : (Lit.int .i64 m).wf = true) (w_f : (Lit.int .i64 f).wf = true) (w_a : (Lit.int .i64 a).wf = true) (w_x : (Lit.int .i64 x).wf = true) :
    Calls Try.prog 6 #[.agg #[.int .i64 m, .int .i64 f, .int .i64 a], .int .i64 x] w fun e w' => e = .returned (.bool true) ∧ Below w.heap.size w w' := by
  have b_m := i64b w_m
  have b_f := i64b w_f
  have b_a := i64b w_a
  have b_x := i64b w_x
  clear w_m
  clear w_f
  clear w_a
  clear w_x
  go_enter Try.func6, Try.ntmps6
  go_wp2_with fail
  refine (toCongruence_any m f a _).mono ?_
  rintro e w1 ⟨rfl, hb1⟩
  go_wp2_with fail
  refine (sNextState_any m f a x _).mono ?_
  rintro e w2 ⟨rfl, hb2⟩
  have hb := bw_call hb1 hb2
  have c0 := cell_new hb 0 rfl
  have c1 := cell_new hb 1 rfl
  have c2 := cell_new hb 2 rfl
  go_wp2_with fail
  refine (toCongruence_any m f a _).mono ?_
  rintro e w3 ⟨rfl, hb3⟩
  go_wp2_with fail
  refine (NextState_any m f a x _).mono ?_
  rintro e w4 ⟨rfl, hb4⟩
  go_wp2
  go_ret
  exact ⟨rfl, bw_call (bw_alloc (bw_refl _) _) (bw_call hb (bw_call hb3 hb4))⟩
theorem FnExactValidFraction_walk (n d : Int)  (w : World) (w_n : (Lit.int .i64 n).wf = true) (w_d : (Lit.int .i64 d).wf = true) :
    Calls Try.prog 8 #[.agg #[.int .i64 n, .int .i64 d]] w fun e w' => e = .returned (.bool true) ∧ Below w.heap.size w w' := by
  have b_n := i64b w_n
  have b_d := i64b w_d
  clear w_n
  clear w_d
  go_enter Try.func8, Try.ntmps8
  go_wp2_with fail
  refine (toFraction_any n d _).mono ?_
  rintro e w1 ⟨rfl, hb1⟩
  go_wp2_with fail
  refine (sValidFraction_any n d _).mono ?_
  rintro e w2 ⟨rfl, hb2⟩
  have hb := bw_call hb1 hb2
  have c0 := cell_new hb 0 rfl
  have c1 := cell_new hb 1 rfl
  go_wp2_with fail
  refine (toFraction_any n d _).mono ?_
  rintro e w3 ⟨rfl, hb3⟩
  go_wp2_with fail
  refine (ValidFraction_any n d _).mono ?_
  rintro e w4 ⟨rfl, hb4⟩
  go_wp2
  go_ret
  exact ⟨rfl, bw_call (bw_alloc (bw_refl _) _) (bw_call hb (bw_call hb3 hb4))⟩
theorem FnExactBitsOf_walk  (n wd : Int) (w : World) (w_n : (Lit.int .i64 n).wf = true) (w_wd : (Lit.int .i64 wd).wf = true) :
    Calls Try.prog 5 #[.int .i64 n, .int .i64 wd] w fun e w' => e = .returned (.bool true) ∧ Below w.heap.size w w' := by
  have b_n := i64b w_n
  have b_wd := i64b w_wd
  clear w_n
  clear w_wd
  go_enter Try.func5, Try.ntmps5
  go_wp2_with fail
  refine (sBitsOf_any n wd _ b_n.1 b_n.2).mono ?_
  rintro e w2 ⟨rfl, hb2⟩
  go_wp2_with fail
  refine (BitsOf_any n wd _ b_n.1 b_n.2).mono ?_
  rintro e w4 ⟨rfl, hb4⟩
  go_wp2
  go_ret
  exact ⟨rfl, bw_call hb2 hb4⟩
theorem FnExactFactorOrder_walk (a m : Int) (w : World) (w_a : (Lit.int .i64 a).wf = true) (w_m : (Lit.int .i64 m).wf = true) :
    Calls Try.prog 7 #[.int .i64 a, .int .i64 m] w fun e w' => e = .returned (.bool true) ∧ Below w.heap.size w w' := by
  clear w_a w_m
  go_enter Try.func7, Try.ntmps7
  go_wp2_with fail
  refine (sFactorOrder_any a m _).mono ?_
  rintro e w2 ⟨rfl, rfl⟩
  go_wp2_with fail
  refine (FactorOrder_any a m _).mono ?_
  rintro e w4 ⟨rfl, n, rfl⟩
  go_wp2
  go_ret
  exact ⟨rfl, bw_drewN (bw_refl _) _⟩
end Go.Proofs.Ytecojhgoeackcab
