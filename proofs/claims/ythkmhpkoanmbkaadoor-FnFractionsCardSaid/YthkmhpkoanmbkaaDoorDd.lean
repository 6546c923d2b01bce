/-
  Decimal: the program's contract over the table of the powers of ten. Condition: that table as it is laid.
-/
import Derived.Test.YthkmhpkoanmbkaaDoorDc
import Derived.Test.YthkmhpkoanmbkaaDoorShelf
import Derived.Lib.AppendIntMem
namespace Go.Proofs.YthkmhpkoanmbkaaDoor
open Go.RowKit
set_option linter.unusedVariables false

/-- The table of the powers of ten lies as its initialiser lays it. -/
def Tab10 (w : World) : Prop := Lib.TabIs Tryd.prog w "internal/strconv.uint64pow10" .u64 Lib.pow10Tab
theorem Tab10.later {w w' : World} (h : Tab10 w) (hb : Below w.heap.size w w') : Tab10 w' := Lib.tabBelow_of_tabIs h w' hb

theorem Decimal_any (n : Int) (w : World) (n0 : -9223372036854775808 ≤ n) (n1 : n ≤ 9223372036854775807) (ht : Tab10 w) :
    Calls Tryd.prog 48 #[.int .i64 n] w fun e w' => e = .returned (.string (decS n)) ∧ Below w.heap.size w w' := by
  have hX : Calls Tryd.prog 58 #[.int .i64 n, .int .i64 10] w fun e w' => e = .returned (.string (decS n)) ∧ Below w.heap.size w w' :=
    (Tryd.strconv_FormatInt_10 n n0 n1 w ht).mono fun e w' ⟨h, k, os, hw⟩ => ⟨h, by rw [hw]; exact Lib.below_grow _ _ (Nat.le_refl _) _ _⟩
  go_enter Tryd.func48, Tryd.ntmps48
  go_wp2_with (go_at_call 58; refine hX.mono ?_; rintro e w1 ⟨rfl, hb⟩)
  go_ret
  exact ⟨rfl, hb⟩
end Go.Proofs.YthkmhpkoanmbkaaDoor
