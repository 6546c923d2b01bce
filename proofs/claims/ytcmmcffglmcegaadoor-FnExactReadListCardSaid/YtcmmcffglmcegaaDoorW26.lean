/-
  Walk of the law FnExactReadDecimal: it returns true for every argument, where the listed variables of the library lie as their initialisers lay them.
-/
import Derived.Test.YtcmmcffglmcegaaDoorRe
import Derived.Stop.LaidErr
namespace Go.Proofs.YtcmmcffglmcegaaDoor
open Go.RowKit
set_option linter.unusedVariables false

theorem gTab10r : Tryd.prog.globalNamed "internal/strconv.uint64pow10" = some 3 := by kernel_rfl
theorem errStar : ("*errors.errorString" : String) = "*" ++ "errors.errorString" := by decide
theorem errRow (u : TypeId) (h : Tryd.prog.typeName? 3 u = some "*errors.errorString") : u = 145 :=
  typeName_ptr_named (nm := "errors.errorString") (by rw [← errStar]; kernel_rfl) (by kernel_rfl) (by decide) u (by rw [← errStar]; exact h)
theorem sentS {W : World} {r : List (String × DataW Unit)} (h : laidMet Tryd.prog (("strconv.ErrSyntax", Rows.laid_strconv_ErrSyntax) :: r) W) : ∃ tp p, W.var? Tryd.prog "strconv.ErrSyntax" = some #[.iface tp p] := by
  obtain ⟨a, s, h1, _⟩ := laid_sentinel h (g := 0) (ti := 55) (by kernel_rfl) (by kernel_rfl) Tryd.underlying55 errRow Tryd.underlying145 Tryd.underlying147 rfl rfl Tryd.underlying9 (by kernel_rfl) (by kernel_rfl)
  exact ⟨_, _, h1⟩
theorem sentR {W : World} {r : List (String × DataW Unit)} (h : laidMet Tryd.prog (("strconv.ErrRange", Rows.laid_strconv_ErrRange) :: r) W) : ∃ tp p, W.var? Tryd.prog "strconv.ErrRange" = some #[.iface tp p] := by
  obtain ⟨a, s, h1, _⟩ := laid_sentinel h (g := 1) (ti := 55) (by kernel_rfl) (by kernel_rfl) Tryd.underlying55 errRow Tryd.underlying145 Tryd.underlying147 rfl rfl Tryd.underlying9 (by kernel_rfl) (by kernel_rfl)
  exact ⟨_, _, h1⟩
theorem facts_rd {W : World} (h : laidMet Tryd.prog Rows.fnExactReadDecimalRow.laid W) : Tab10 W ∧ Errs W :=
  ⟨Lib.tabIs_of_head (rest := [("strconv.ErrRange", Rows.laid_strconv_ErrRange), ("strconv.ErrSyntax", Rows.laid_strconv_ErrSyntax)]) gTab10r (by kernel_rfl) Tryd.underlying149 Tryd.underlying85 (by kernel_rfl) (by kernel_rfl) h.tail.tail,
    sentS h.tail.tail.tail.tail, sentR h.tail.tail.tail⟩
theorem FnExactReadDecimal_walk (s : ByteArray) (w : World) (w_s : s.size ≤ maxLen) (hf : Tab10 w ∧ Errs w) :
    Calls Tryd.prog 5 #[.string s] w fun e w' => e = .returned (.bool true) ∧ Below w.heap.size w w' := by
  clear w_s
  by_cases hs : (1048576 : Int) < s.size
  · go_enter Tryd.func5, Tryd.ntmps5
    go_wp2
    go_ret
    exact ⟨rfl, bw_refl _⟩
  · go_enter Tryd.func5, Tryd.ntmps5
    go_wp2_with fail
    refine (sReadDecimal_any s _ (by omega)).mono ?_
    rintro e w1 ⟨rfl, hb1⟩
    go_wp2_with fail
    refine (ReadDecimal_any s _ (by omega) (hf.1.later hb1) (hf.2.later hb1)).mono ?_
    rintro e w2 ⟨rfl, hb2⟩
    go_wp2
    go_ret
    exact ⟨rfl, bw_call hb1 hb2⟩
end Go.Proofs.YtcmmcffglmcegaaDoor
