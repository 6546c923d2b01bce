/-
  Walks of the laws FnExactParityOf and FnExactMakeFraction: each returns true for every argument. No condition.
-/
import Derived.Test.YtifigkkghfjhpaaC8
import Derived.Test.YtifigkkghfjhpaaC9
namespace Go.Proofs.Ytifigkkghfjhpaa
open Go.RowKit
set_option linter.unusedVariables false

theorem FnExactParityOf_walk (n m : Int) (w : World) (w_n : (Lit.int .i64 n).wf = true) (w_m : (Lit.int .i64 m).wf = true) :
    Calls Try.prog 3 #[.int .i64 n, .int .i64 m] w fun e w' => e = .returned (.bool true) ∧ Below w.heap.size w w' := by
  have b1 := i64b w_n
  have b2 := i64b w_m
  clear w_n w_m
  go_enter Try.func3, Try.ntmps3
  go_wp2_with (first | (go_at_call 14; refine (sParityOf_any n m _ b1.2 b2.2).mono ?_; rintro e w' ⟨rfl, rfl⟩) | (go_at_call 15; refine (ParityOf_any n m _ b1.2 b2.2).mono ?_; rintro e w' ⟨rfl, rfl⟩))
  go_ret
  exact ⟨rfl, bw_refl _⟩
theorem FnExactMakeFraction_walk (n d : Int) (w : World) (w_n : (Lit.int .i64 n).wf = true) (w_d : (Lit.int .i64 d).wf = true) :
    Calls Try.prog 4 #[.int .i64 n, .int .i64 d] w fun e w' => e = .returned (.bool true) ∧ Below w.heap.size w w' := by
  clear w_n w_d
  go_enter Try.func4, Try.ntmps4
  go_wp2_with fail
  refine (sMakeFraction_any n d _).mono ?_
  rintro e w1 ⟨rfl, hb1⟩
  go_wp2_with fail
  refine (MakeFraction_any n d _).mono ?_
  rintro e w2 ⟨rfl, hb2⟩
  have c0 := cell_new hb2 0 rfl
  have c1 := cell_new hb2 1 rfl
  have hz : w1.heap.size < w2.heap.size := by have := hb2.size; simp at this; omega
  go_wp2_with fail
  refine (eqFraction_same _ _ _).mono ?_
  rintro e w3 ⟨rfl, hb3⟩
  go_wp2
  go_ret
  exact ⟨rfl, bw_call hb1 (bw_call (bw_alloc (bw_refl _) _) (bw_call hb2 (bw_call (bw_alloc (bw_refl _) _) hb3)))⟩
end Go.Proofs.Ytifigkkghfjhpaa
