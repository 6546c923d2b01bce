/-
  Walks of the laws FnExactXorBits, FnExactNumberOfBits, FnExactTakeEvery, FnExactOnesOf: each returns true for every argument. No condition.
-/
import Derived.Test.YtpppdlgmhedaeaaDoorB4
namespace Go.Proofs.YtpppdlgmhedaeaaDoor
open Go.RowKit
set_option linter.unusedVariables false

theorem FnExactXorBits_walk (a : ByteArray) (b : ByteArray) (w : World) (w_a : a.size ≤ maxLen) (w_b : b.size ≤ maxLen) :
    Calls Tryd.prog 6 #[.string a, .string b] w fun e w' => e = .returned (.bool true) ∧ Below w.heap.size w w' := by
  clear w_a w_b
  by_cases h_a : (1048576 : Int) < a.size
  · go_enter Tryd.func6, Tryd.ntmps6
    go_wp2
    go_ret
    exact ⟨rfl, bw_refl _⟩
  · skip
    by_cases h_b : (1048576 : Int) < b.size
    · go_enter Tryd.func6, Tryd.ntmps6
      go_wp2
      go_ret
      exact ⟨rfl, bw_refl _⟩
    · skip
      go_enter Tryd.func6, Tryd.ntmps6
      go_wp2_with fail
      refine (sXorBits_any a b _ (by omega) (by omega)).mono ?_
      rintro e w1 ⟨rfl, hb1⟩
      go_wp2_with fail
      refine (XorBits_any a b _ (by omega) (by omega)).mono ?_
      rintro e w2 ⟨rfl, hb2⟩
      go_wp2
      go_ret
      exact ⟨rfl, bw_call hb1 hb2⟩
theorem FnExactNumberOfBits_walk (s : ByteArray) (w : World) (w_s : s.size ≤ maxLen) :
    Calls Tryd.prog 7 #[.string s] w fun e w' => e = .returned (.bool true) ∧ Below w.heap.size w w' := by
  clear w_s
  by_cases h_s : (1048576 : Int) < s.size
  · go_enter Tryd.func7, Tryd.ntmps7
    go_wp2
    go_ret
    exact ⟨rfl, bw_refl _⟩
  · skip
    go_enter Tryd.func7, Tryd.ntmps7
    go_wp2_with fail
    refine (sNumberOfBits_any s _ (by omega)).mono ?_
    rintro e w1 ⟨rfl, rfl⟩
    go_wp2_with fail
    refine (NumberOfBits_any s _ (by omega)).mono ?_
    rintro e w2 ⟨rfl, hb2⟩
    go_wp2
    go_ret
    exact ⟨rfl, hb2⟩
theorem FnExactTakeEvery_walk (s : ByteArray) (st : Int) (w : World) (w_s : s.size ≤ maxLen) (w_st : (Lit.int .i64 st).wf = true) :
    Calls Tryd.prog 5 #[.string s, .int .i64 st] w fun e w' => e = .returned (.bool true) ∧ Below w.heap.size w w' := by
  have b_st := i64b w_st
  clear w_s w_st
  by_cases h_s : (1048576 : Int) < s.size
  · go_enter Tryd.func5, Tryd.ntmps5
    go_wp2
    go_ret
    exact ⟨rfl, bw_refl _⟩
  · skip
    go_enter Tryd.func5, Tryd.ntmps5
    go_wp2_with fail
    refine (sTakeEvery_any s st _ (by omega)).mono ?_
    rintro e w1 ⟨rfl, hb1⟩
    go_wp2_with fail
    refine (TakeEvery_any s st _ (by omega)).mono ?_
    rintro e w2 ⟨rfl, hb2⟩
    go_wp2
    go_ret
    exact ⟨rfl, bw_call hb1 hb2⟩
theorem FnExactOnesOf_walk (s : ByteArray) (w : World) (w_s : s.size ≤ maxLen) :
    Calls Tryd.prog 11 #[.string s] w fun e w' => e = .returned (.bool true) ∧ Below w.heap.size w w' := by
  clear w_s
  by_cases h_s : (1048576 : Int) < s.size
  · go_enter Tryd.func11, Tryd.ntmps11
    go_wp2
    go_ret
    exact ⟨rfl, bw_refl _⟩
  · skip
    go_enter Tryd.func11, Tryd.ntmps11
    go_wp2_with fail
    refine (sOnesOf_any s _ (by omega)).mono ?_
    rintro e w1 ⟨rfl, rfl⟩
    go_wp2_with fail
    refine (OnesOf_any s _ (by omega)).mono ?_
    rintro e w2 ⟨rfl, hb2⟩
    go_wp2
    go_ret
    exact ⟨rfl, hb2⟩
end Go.Proofs.YtpppdlgmhedaeaaDoor
