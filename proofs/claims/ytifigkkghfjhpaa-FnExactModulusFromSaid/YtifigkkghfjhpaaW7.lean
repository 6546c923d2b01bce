/-
  Walks of the laws FnExactModulusFrom and FnExactFactorsFrom: each returns true for every argument. No condition.
-/
import Derived.Test.YtifigkkghfjhpaaC16
namespace Go.Proofs.Ytifigkkghfjhpaa
open Go.RowKit
set_option linter.unusedVariables false

theorem FnExactModulusFrom_walk (a : Option Addr) (len cap : Nat) (zs : List Int) (w : World) (h : IsRow .i64 w a len cap zs) :
    Calls Try.prog 10 #[.slice a len cap] w fun e w' => e = .returned (.bool true) ∧ Below w.heap.size w w' := by
  have H := Lib.hid h
  obtain ⟨g1, g2, g3⟩ := h.len_le
  clear h
  by_cases hle : len ≤ 1048576
  · obtain ⟨xs, hxs⟩ : ∃ xs, Hid (zs.take len = xs) := ⟨_, Lib.hid rfl⟩
    have HX := Lib.hid (show xs.length < 1000000000000 by rw [← hxs.out, List.length_take]; omega)
    clear g1 g2 g3
    go_enter Try.func10, Try.ntmps10
    go_wp2_with fail
    refine (toInt64S_any a len cap zs _ H.out hle).mono ?_
    rw [hxs.out]
    rintro e w1 ⟨a1, c1, rfl, hl1, hb1⟩
    have H1 := Lib.hid (H.out.below hb1)
    have B1 := Lib.hid hb1
    have L1 := Lib.hid hl1
    clear hb1 hl1
    go_wp2_with fail
    refine (sModulusFrom_any xs a1 c1 _ _ L1.out HX.out).mono ?_
    rintro e w2 ⟨rfl, hb2⟩
    have H2 := Lib.hid (H1.out.below hb2)
    have B2 := Lib.hid (bw_call B1.out hb2)
    clear hb2
    go_wp2_with fail
    refine (toInt64S_any a len cap zs _ H2.out hle).mono ?_
    rw [hxs.out]
    rintro e w3 ⟨a3, c3, rfl, hl3, hb3⟩
    have H3 := Lib.hid (H2.out.below hb3)
    have B3 := Lib.hid (bw_call B2.out hb3)
    have L3 := Lib.hid hl3
    clear hb3 hl3
    go_wp2_with fail
    refine (ModulusFrom_any xs a3 c3 _ _ L3.out HX.out).mono ?_
    rintro e w4 ⟨rfl, hb4⟩
    have H4 := Lib.hid (H3.out.below hb4)
    have B4 := Lib.hid (bw_call B3.out hb4)
    have L4 := Lib.hid (L3.out.later hb4)
    clear hb4
    go_wp2_with fail
    refine (toInt64S_any a len cap zs _ H4.out hle).mono ?_
    rw [hxs.out]
    rintro e w5 ⟨a5, c5, rfl, hl5, hb5⟩
    have B5 := Lib.hid (bw_call B4.out hb5)
    have L5 := Lib.hid hl5
    have L45 := Lib.hid (L4.out.later hb5)
    clear hb5 hl5
    go_wp2_with fail
    refine (eqInt64S_same xs a3 a5 c3 c5 _ _ _ L45.out L5.out HX.out).mono ?_
    rintro e w6 ⟨rfl, n, rfl⟩
    go_wp2
    go_ret
    exact ⟨rfl, bw_drewN B5.out _⟩
  · clear g1 g2 g3
    go_enter Try.func10, Try.ntmps10
    go_wp2
    go_ret
    exact ⟨rfl, bw_refl _⟩
end Go.Proofs.Ytifigkkghfjhpaa
