/-
  Walks of the laws FnExactConstants, FnExactValidCongruence, FnExactValidRegister, FnExactIsName and FnExactCheckOf: each returns true for every argument. No condition.
-/
import Derived.Test.YtecojhgoeackcaaC2
namespace Go.Proofs.Ytecojhgoeackcaa
open Go.RowKit
set_option linter.unusedVariables false

theorem FnExactValidCongruence_walk (m f a : Int) (w : World) (wm : (Lit.int .i64 m).wf = true) (wf : (Lit.int .i64 f).wf = true) (wa : (Lit.int .i64 a).wf = true) :
    Calls Try.prog 4 #[.agg #[.int .i64 m, .int .i64 f, .int .i64 a]] w fun e w' => e = .returned (.bool true) ∧ Below w.heap.size w w' := by
  go_enter Try.func4, Try.ntmps4
  go_wp2_with fail
  refine (toCongruence_any m f a _).mono ?_
  rintro e w1 ⟨rfl, hb1⟩
  go_wp2_with fail
  refine (sValidCongruence_any m f a _).mono ?_
  rintro e w2 ⟨rfl, hb2⟩
  have hb := bw_call hb1 hb2
  have c0 := cell_new hb 0 rfl
  have c1 := cell_new hb 1 rfl
  have c2 := cell_new hb 2 rfl
  go_wp2_with fail
  refine (toCongruence_any m f a _).mono ?_
  rintro e w3 ⟨rfl, hb3⟩
  go_wp2_with fail
  refine (ValidCongruence_any m f a _).mono ?_
  rintro e w4 ⟨rfl, hb4⟩
  go_wp2
  go_ret
  exact ⟨rfl, bw_call (bw_alloc (bw_refl _) _) (bw_call hb (bw_call hb3 hb4))⟩
theorem FnExactValidRegister_walk (wd tp : Int) (w : World) (w1 : (Lit.int .i64 wd).wf = true) (w2 : (Lit.int .i64 tp).wf = true) :
    Calls Try.prog 5 #[.agg #[.int .i64 wd, .int .i64 tp]] w fun e w' => e = .returned (.bool true) ∧ Below w.heap.size w w' := by
  go_enter Try.func5, Try.ntmps5
  go_wp2_with fail
  refine (toRegister_any wd tp _).mono ?_
  rintro e w1 ⟨rfl, hb1⟩
  go_wp2_with fail
  refine (sValidRegister_any wd tp _).mono ?_
  rintro e w2 ⟨rfl, hb2⟩
  have hb := bw_call hb1 hb2
  have c0 := cell_new hb 0 rfl
  have c1 := cell_new hb 1 rfl
  go_wp2_with fail
  refine (toRegister_any wd tp _).mono ?_
  rintro e w3 ⟨rfl, hb3⟩
  go_wp2_with fail
  refine (ValidRegister_any wd tp _).mono ?_
  rintro e w4 ⟨rfl, hb4⟩
  go_wp2
  go_ret
  exact ⟨rfl, bw_call (bw_alloc (bw_refl _) _) (bw_call hb (bw_call hb3 hb4))⟩
theorem FnExactIsName_walk (s : ByteArray) (w : World) (hs : s.size ≤ maxLen) :
    Calls Try.prog 6 #[.string s] w fun e w' => e = .returned (.bool true) ∧ Below w.heap.size w w' := by
  by_cases hb : s.size ≤ 1048576
  · go_enter Try.func6, Try.ntmps6
    go_wp2_with (first | (go_at_call 15; refine (sIsName_any s _ hb).mono ?_; rintro e w' ⟨rfl, rfl⟩) | (go_at_call 16; refine (IsName_any s _ hb).mono ?_; rintro e w' ⟨rfl, rfl⟩))
    go_ret
    exact ⟨rfl, bw_refl _⟩
  · go_enter Try.func6, Try.ntmps6
    go_wp2
    go_ret
    exact ⟨rfl, bw_refl _⟩
theorem FnExactCheckOf_walk (n : Int) (s : ByteArray) (w : World) (hn : (Lit.int .i64 n).wf = true) (hs : s.size ≤ maxLen) :
    Calls Try.prog 7 #[.int .i64 n, .string s] w fun e w' => e = .returned (.bool true) ∧ Below w.heap.size w w' := by
  by_cases hb : s.size ≤ 1048576
  · go_enter Try.func7, Try.ntmps7
    go_wp2_with (first | (go_at_call 17; refine (sCheckOf_any n s _ hs).mono ?_; rintro e w' ⟨rfl, rfl⟩) | (go_at_call 18; refine (CheckOf_any n s _ hs).mono ?_; rintro e w' ⟨rfl, rfl⟩))
    go_ret
    exact ⟨rfl, bw_refl _⟩
  · go_enter Try.func7, Try.ntmps7
    go_wp2
    go_ret
    exact ⟨rfl, bw_refl _⟩
theorem FnExactConstants_walk (w : World) :
    Calls Try.prog 3 #[] w fun e w' => e = .returned (.bool true) ∧ Below w.heap.size w w' := by
  go_enter Try.func3, Try.ntmps3
  go_wp2
  go_ret
  exact ⟨rfl, bw_refl _⟩
end Go.Proofs.Ytecojhgoeackcaa
