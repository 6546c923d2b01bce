/-
  Walk of the law FnExactLeastAllWords: it returns true for every argument. No condition.
-/
import Derived.Test.YtdnikkmioighkaaDoorLy
namespace Go.Proofs.YtdnikkmioighkaaDoor
open Go.RowKit
set_option linter.unusedVariables false

theorem FnExactLeastAllWords_walk (wd : Int) (w : World) (w_w : (Lit.int .i64 wd).wf = true) :
    Calls Tryd.prog 3 #[.int .i64 wd] w fun e w' => e = .returned (.bool true) ∧ Below w.heap.size w w' := by
  clear w_w
  have h1 := fun w => sLeastAllWords_any wd w
  have h2 := fun w => LeastAllWords_any wd w
  obtain ⟨s, hs⟩ : ∃ s, lwS wd = s := ⟨_, rfl⟩
  obtain ⟨b, hb⟩ : ∃ b, lwB wd = b := ⟨_, rfl⟩
  rw [hs, hb] at h1 h2
  clear hs hb
  go_enter Tryd.func3, Tryd.ntmps3
  go_wp2_with fail
  refine (h1 _).mono ?_
  rintro e w1 ⟨rfl, hb1⟩
  go_wp2_with fail
  refine (h2 _).mono ?_
  rintro e w2 ⟨rfl, hb2⟩
  go_wp2
  go_ret
  exact ⟨rfl, bw_call hb1 hb2⟩
end Go.Proofs.YtdnikkmioighkaaDoor
