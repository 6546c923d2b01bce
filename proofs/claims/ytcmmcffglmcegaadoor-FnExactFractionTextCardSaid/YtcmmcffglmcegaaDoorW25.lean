/-
  Walk of the law FnExactFractionText: it returns true for every argument, where the library's table of the powers of ten lies as its initialiser lays it.
-/
import Derived.Test.YtcmmcffglmcegaaDoorF1
import Derived.Stop.LaidErr
namespace Go.Proofs.YtcmmcffglmcegaaDoor
open Go.RowKit
set_option linter.unusedVariables false

theorem gTab10 : Tryd.prog.globalNamed "internal/strconv.uint64pow10" = some 3 := by kernel_rfl
theorem tab10_ft {W : World} (h : laidMet Tryd.prog Rows.fnExactFractionTextRow.laid W) : Tab10 W :=
  Lib.tabIs_of_head (rest := []) gTab10 (by kernel_rfl) Tryd.underlying149 Tryd.underlying85 (by kernel_rfl) (by kernel_rfl) h.tail.tail
theorem FnExactFractionText_walk (n d : Int) (w : World) (w_n : (Lit.int .i64 n).wf = true) (w_d : (Lit.int .i64 d).wf = true) (ht : Tab10 w) :
    Calls Tryd.prog 3 #[.agg #[.int .i64 n, .int .i64 d]] w fun e w' => e = .returned (.bool true) ∧ Below w.heap.size w w' := by
  have b_n := i64b w_n
  have b_d := i64b w_d
  clear w_n
  clear w_d
  go_enter Tryd.func3, Tryd.ntmps3
  go_wp2_with fail
  refine (toFraction_any n d _).mono ?_
  rintro e w1 ⟨rfl, hb1⟩
  go_wp2_with fail
  refine (sFractionText_any n d _).mono ?_
  rintro e w2 ⟨rfl, hb2⟩
  have hb := bw_call hb1 hb2
  have c0 := cell_new hb 0 rfl
  have c1 := cell_new hb 1 rfl
  go_wp2_with fail
  refine (toFraction_any n d _).mono ?_
  rintro e w3 ⟨rfl, hb3⟩
  go_wp2_with fail
  refine (FractionText_any n d _ (ht.later (bw_call (bw_alloc (bw_refl _) _) (bw_call hb hb3)))).mono ?_
  rintro e w4 ⟨rfl, hb4⟩
  go_wp2
  go_ret
  exact ⟨rfl, bw_call (bw_alloc (bw_refl _) _) (bw_call hb (bw_call hb3 hb4))⟩
end Go.Proofs.YtcmmcffglmcegaaDoor
