/-
  Walks of the laws FnExactOrderOfX and FnExactIsPrimitive: each returns true for every argument. No condition.
-/
import Derived.Test.YtkepnjdomlfpdaaC22
namespace Go.Proofs.Ytkepnjdomlfpdaa
open Go.RowKit
set_option linter.unusedVariables false

theorem OrderOfX_b (p : Int) (w : World) : Calls Try.prog 20 #[.int .i64 p] w fun e w' => e = .returned (.tuple #[.int .i64 (ooV p), .bool (ooB p)]) ∧ Below w.heap.size w w' :=
  (OrderOfX_any p w).mono fun _ _ h => ⟨h.1, h.2 ▸ bw_refl _⟩
theorem sOrderOfX_b (p : Int) (w : World) : Calls Try.prog 19 #[.int .i64 p] w fun e w' => e = .returned (.tuple #[.int .i64 (ooV p), .bool (ooB p)]) ∧ Below w.heap.size w w' :=
  (sOrderOfX_any p w).mono fun _ _ h => ⟨h.1, h.2 ▸ bw_refl _⟩
theorem FnExactOrderOfX_walk  (p : Int) (w : World) (w_p : (Lit.int .i64 p).wf = true) :
    Calls Try.prog 6 #[.int .i64 p] w fun e w' => e = .returned (.bool true) ∧ Below w.heap.size w w' := by
  have b_p := i64b w_p
  clear w_p
  go_enter Try.func6, Try.ntmps6
  go_wp2_with fail
  refine (sOrderOfX_b p _).mono ?_
  rintro e w2 ⟨rfl, hb2⟩
  go_wp2_with fail
  refine (OrderOfX_b p _).mono ?_
  rintro e w4 ⟨rfl, hb4⟩
  go_wp2
  go_ret
  exact ⟨rfl, bw_call hb2 hb4⟩
theorem IsPrimitive_b (p : Int) (w : World) : Calls Try.prog 16 #[.int .i64 p] w fun e w' => e = .returned (.bool (prB p)) ∧ Below w.heap.size w w' :=
  (IsPrimitive_any p w).mono fun _ _ h => ⟨h.1, h.2 ▸ bw_refl _⟩
theorem sIsPrimitive_b (p : Int) (w : World) : Calls Try.prog 15 #[.int .i64 p] w fun e w' => e = .returned (.bool (prB p)) ∧ Below w.heap.size w w' :=
  (sIsPrimitive_any p w).mono fun _ _ h => ⟨h.1, h.2 ▸ bw_refl _⟩
theorem FnExactIsPrimitive_walk  (p : Int) (w : World) (w_p : (Lit.int .i64 p).wf = true) :
    Calls Try.prog 4 #[.int .i64 p] w fun e w' => e = .returned (.bool true) ∧ Below w.heap.size w w' := by
  have b_p := i64b w_p
  clear w_p
  go_enter Try.func4, Try.ntmps4
  go_wp2_with fail
  refine (sIsPrimitive_b p _).mono ?_
  rintro e w2 ⟨rfl, hb2⟩
  go_wp2_with fail
  refine (IsPrimitive_b p _).mono ?_
  rintro e w4 ⟨rfl, hb4⟩
  go_wp2
  go_ret
  exact ⟨rfl, bw_call hb2 hb4⟩
end Go.Proofs.Ytkepnjdomlfpdaa
