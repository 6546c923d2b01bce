/-
  The walk of the law FnExactStatesOf: it returns true for every argument. No condition.
-/
import Derived.Test.YtifigkkghfjhpaaC14
namespace Go.Proofs.Ytifigkkghfjhpaa
open Go.RowKit
set_option linter.unusedVariables false

theorem ssL_lt (m f a x n : Int) : (ssL m f a x n).length < 1000000000000 := by
  unfold ssL
  split
  · rename_i h
    simp only [ssB, Bool.and_eq_true] at h
    have := inR_true h.2
    rw [sts_len]; omega
  · simp
theorem FnExactStatesOf_walk (m f a : Int) (x n : Int) (w : World) (w_m : (Lit.int .i64 m).wf = true) (w_f : (Lit.int .i64 f).wf = true) (w_a : (Lit.int .i64 a).wf = true) (w_x : (Lit.int .i64 x).wf = true) (w_n : (Lit.int .i64 n).wf = true) :
    Calls Try.prog 8 #[.agg #[.int .i64 m, .int .i64 f, .int .i64 a], .int .i64 x, .int .i64 n] w fun e w' => e = .returned (.bool true) ∧ Below w.heap.size w w' := by
  have b_m := i64b w_m
  have b_f := i64b w_f
  have b_a := i64b w_a
  have b_x := i64b w_x
  have b_n := i64b w_n
  clear w_m w_f w_a w_x w_n
  have HL := Lib.hid (ssL_lt m f a x n)
  go_enter Try.func8, Try.ntmps8
  go_wp2_with fail
  refine (toCongruence_any m f a _).mono ?_
  rintro e w1 ⟨rfl, hb1⟩
  go_wp2_with fail
  refine (sStatesOf_any m f a x n _).mono ?_
  rintro e w2 ⟨a1, c1', rfl, hl1, hb2⟩
  have HB2 := Lib.hid (bw_call hb1 hb2)
  have L1 := Lib.hid hl1
  clear hb1 hb2 hl1
  have c0 := cell_new HB2.out 0 rfl
  have c1 := cell_new HB2.out 1 rfl
  have c2 := cell_new HB2.out 2 rfl
  go_wp2_with fail
  clear c0 c1 c2
  refine (toCongruence_any m f a _).mono ?_
  rintro e w3 ⟨rfl, hb3⟩
  go_wp2_with fail
  refine (StatesOf_any m f a x n _).mono ?_
  rintro e w4 ⟨a2, c2', rfl, hl2, hb4⟩
  have D4 := Lib.hid (bw_call hb3 hb4)
  have HB4 := Lib.hid (bw_call HB2.out D4.out)
  have L2 := Lib.hid (hl2.mono hb3.size)
  have K1 := Lib.hid (L1.out.later D4.out)
  have S4 := Lib.hid D4.out.size
  clear hb3 hb4 hl2
  go_wp2_with fail
  refine (eqInt64S_same _ a2 a1 c2' c1' _ _ _ L2.out K1.out HL.out).mono ?_
  rintro e w5 ⟨rfl, n5, rfl⟩
  go_wp2_with fail
  refine (markInt64S_any _ a2 c2' _ 1 _ (L2.out.later (bw_drewN (bw_refl _) n5)) HL.out (by omega) (by omega) S4.out).mono ?_
  rintro e w6 ⟨rfl, ys, hy1, hy2, hl6, hb6⟩
  have Y1 := Lib.hid hy1
  have Y2 := Lib.hid hy2
  have L6 := Lib.hid hl6
  have D6 := Lib.hid (D4.out.trans ((bw_drewN (bw_refl _) n5 : Below w4.heap.size w4 (w4.drewN n5)).mono S4.out) |>.trans hb6)
  have HB6 := Lib.hid (bw_call HB2.out D6.out)
  clear hy1 hy2 hl6 hb6
  go_wp2_with fail
  rw [← Y1.out]
  refine (heldInt64S_any ys a2 c2' _ 1 _ L6.out Y2.out (by rw [Y1.out]; exact HL.out) (by omega) (by omega)).mono ?_
  rintro e w7 ⟨rfl, rfl⟩
  rw [Y1.out]
  have c0 := cell_new HB6.out 0 rfl
  have c1 := cell_new HB6.out 1 rfl
  have c2 := cell_new HB6.out 2 rfl
  go_wp2_with fail
  clear c0 c1 c2
  refine (toCongruence_any m f a _).mono ?_
  rintro e w8 ⟨rfl, hb8⟩
  go_wp2_with fail
  refine (StatesOf_any m f a x n _).mono ?_
  rintro e w9 ⟨a3, c3', rfl, hl3, hb9⟩
  have D9 := Lib.hid (bw_call hb8 hb9)
  have HB9 := Lib.hid (bw_call HB6.out D9.out)
  have L3 := Lib.hid hl3
  have K9 := Lib.hid (L1.out.later (bw_call D6.out D9.out))
  have L9 := Lib.hid (L6.out.later D9.out)
  clear hb8 hb9 hl3
  go_wp2_with fail
  refine (eqInt64S_same _ a3 a1 c3' c1' _ _ _ L3.out K9.out HL.out).mono ?_
  rintro e w10 ⟨rfl, n10, rfl⟩
  go_wp2_with fail
  rw [← Y1.out]
  refine (heldInt64S_any ys a2 c2' _ 1 _ (L9.out.later (bw_drewN (bw_refl _) n10)) Y2.out (by rw [Y1.out]; exact HL.out) (by omega) (by omega)).mono ?_
  rintro e w11 ⟨rfl, rfl⟩
  rw [Y1.out]
  go_wp2
  go_ret
  exact ⟨rfl, bw_call (bw_alloc (bw_refl _) _) (bw_drewN HB9.out _)⟩
end Go.Proofs.Ytifigkkghfjhpaa
