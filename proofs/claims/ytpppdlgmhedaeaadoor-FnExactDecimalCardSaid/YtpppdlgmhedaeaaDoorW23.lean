/-
  Walk of the law FnExactDecimal: it returns true for every argument, where the library's table of the powers of ten lies as its initialiser lays it.
-/
import Derived.Test.YtpppdlgmhedaeaaDoorDd
import Derived.Stop.LaidErr
namespace Go.Proofs.YtpppdlgmhedaeaaDoor
open Go.RowKit
set_option linter.unusedVariables false

theorem gTab10 : Tryd.prog.globalNamed "internal/strconv.uint64pow10" = some 1 := by kernel_rfl
theorem tab10_of {W : World} (h : laidMet Tryd.prog Rows.fnExactDecimalRow.laid W) : Tab10 W :=
  Lib.tabIs_of_head (rest := []) gTab10 (by kernel_rfl) Tryd.underlying123 Tryd.underlying82 (by kernel_rfl) (by kernel_rfl) h.tail.tail
theorem FnExactDecimal_walk (n : Int) (w : World) (w_n : (Lit.int .i64 n).wf = true) (ht : Tab10 w) :
    Calls Tryd.prog 3 #[.int .i64 n] w fun e w' => e = .returned (.bool true) ∧ Below w.heap.size w w' := by
  have b_n := i64b w_n
  clear w_n
  go_enter Tryd.func3, Tryd.ntmps3
  go_wp2_with fail
  refine (sDecimal_any n _ b_n.1 b_n.2).mono ?_
  rintro e w1 ⟨rfl, hb1⟩
  go_wp2_with fail
  refine (Decimal_any n _ b_n.1 b_n.2 (ht.later hb1)).mono ?_
  rintro e w2 ⟨rfl, hb2⟩
  go_wp2
  go_ret
  exact ⟨rfl, bw_call hb1 hb2⟩
end Go.Proofs.YtpppdlgmhedaeaaDoor
