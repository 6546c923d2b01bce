/-
  Walk of the law FnExactIsBits: it returns true for every argument. No condition.
-/
import Derived.Test.YtpppdlgmhedaeaaDoorB1
namespace Go.Proofs.YtpppdlgmhedaeaaDoor
open Go.RowKit
set_option linter.unusedVariables false

theorem FnExactIsBits_walk (s : ByteArray) (w : World) (w_s : s.size ≤ maxLen) :
    Calls Tryd.prog 4 #[.string s] w fun e w' => e = .returned (.bool true) ∧ Below w.heap.size w w' := by
  clear w_s
  by_cases hs : (1048576 : Int) < s.size
  · go_enter Tryd.func4, Tryd.ntmps4
    go_wp2
    go_ret
    exact ⟨rfl, bw_refl _⟩
  · go_enter Tryd.func4, Tryd.ntmps4
    go_wp2_with fail
    refine (sIsBits_any s _ (by omega)).mono ?_
    rintro e w1 ⟨rfl, rfl⟩
    go_wp2_with fail
    refine (IsBits_any s _ (by omega)).mono ?_
    rintro e w2 ⟨rfl, hb2⟩
    go_wp2
    go_ret
    exact ⟨rfl, hb2⟩
end Go.Proofs.YtpppdlgmhedaeaaDoor
