/-
  Walk of the law FnExactFactorsFrom: it returns true for every argument. No condition.
-/
import Derived.Test.YtifigkkghfjhpaaC17
import Derived.Test.YtifigkkghfjhpaaLs2
namespace Go.Proofs.Ytifigkkghfjhpaa
open Go.RowKit
set_option linter.unusedVariables false

theorem FnExactFactorsFrom_walk (m : Int) (a : Option Addr) (len cap : Nat) (zs : List Int) (w : World) (w_m : (Lit.int .i64 m).wf = true) (h : IsRow .i64 w a len cap zs) :
    Calls Try.prog 9 #[.int .i64 m, .slice a len cap] w fun e w' => e = .returned (.bool true) ∧ Below w.heap.size w w' := by
  have b_m := i64b w_m
  clear w_m
  have H := Lib.hid h
  obtain ⟨g1, g2, g3⟩ := h.len_le
  clear h
  by_cases hle : len ≤ 1048576
  · obtain ⟨xs, hxs⟩ : ∃ xs, Hid (zs.take len = xs) := ⟨_, Lib.hid rfl⟩
    have HX := Lib.hid (show xs.length < 1000000000000 by rw [← hxs.out, List.length_take]; omega)
    have HR := Lib.hid (ffL_len m xs)
    clear g1 g2 g3
    go_enter Try.func9, Try.ntmps9
    have B0 := Lib.hid (bw_refl w)
    go_wp2_with fail
    refine (toInt64S_any a len cap zs _ (H.out.below B0.out) hle).mono ?_
    rw [hxs.out]
    rintro e w1 ⟨aT, cT, rfl, hl, hb⟩
    have T_1 := Lib.hid hl.toIn
    clear hl
    have s1 := hb.size
    have B1 := Lib.hid (B0.out.trans (hb.mono (by omega)))
    clear hb
    go_wp2_with fail
    refine (sFactorsFrom_any m xs aT cT _ _ T_1.out.toL HX.out).mono ?_
    rintro e w2 ⟨aL, cL, rfl, hl, hb⟩
    have L_2 := Lib.hid hl.toIn
    clear hl
    have s2 := hb.size
    have B2 := Lib.hid (B1.out.trans (hb.mono (by omega)))
    have T_2 := Lib.hid (T_1.out.under hb (by omega))
    clear hb
    go_wp2_with fail
    refine (toInt64S_any a len cap zs _ (H.out.below B2.out) hle).mono ?_
    rw [hxs.out]
    rintro e w3 ⟨aX, cX, rfl, hl, hb⟩
    have X_3 := Lib.hid hl.toIn
    clear hl
    have s3 := hb.size
    have B3 := Lib.hid (B2.out.trans (hb.mono (by omega)))
    have T_3 := Lib.hid (T_2.out.under hb (by omega))
    have L_3 := Lib.hid (L_2.out.under hb (by omega))
    clear hb
    go_wp2_with fail
    refine (FactorsFrom_any m xs aX cX _ _ X_3.out.toL HX.out).mono ?_
    rintro e w4 ⟨aG, cG, rfl, hl, hb⟩
    have G_4 := Lib.hid hl.toIn
    clear hl
    have s4 := hb.size
    have B4 := Lib.hid (B3.out.trans (hb.mono (by omega)))
    have T_4 := Lib.hid (T_3.out.under hb (by omega))
    have L_4 := Lib.hid (L_3.out.under hb (by omega))
    have X_4 := Lib.hid (X_3.out.under hb (by omega))
    clear hb
    go_wp2_with fail
    refine (eqInt64S_same _ aG aL cG cL _ _ _ G_4.out.toL L_4.out.toL HR.out).mono ?_
    rintro e w5 ⟨rfl, nn, hw⟩
    have hb : Below w4.heap.size w4 w5 := hw ▸ bw_drewN (bw_refl _) nn
    clear hw
    have s5 := hb.size
    have B5 := Lib.hid (B4.out.trans (hb.mono (by omega)))
    have T_5 := Lib.hid (T_4.out.under hb (by omega))
    have L_5 := Lib.hid (L_4.out.under hb (by omega))
    have X_5 := Lib.hid (X_4.out.under hb (by omega))
    have G_5 := Lib.hid (G_4.out.under hb (by omega))
    clear hb
    go_wp2_with fail
    refine (toInt64S_any a len cap zs _ (H.out.below B5.out) hle).mono ?_
    rw [hxs.out]
    rintro e w6 ⟨aU, cU, rfl, hl, hb⟩
    have U_6 := Lib.hid hl.toIn
    clear hl
    have s6 := hb.size
    have B6 := Lib.hid (B5.out.trans (hb.mono (by omega)))
    have T_6 := Lib.hid (T_5.out.under hb (by omega))
    have L_6 := Lib.hid (L_5.out.under hb (by omega))
    have X_6 := Lib.hid (X_5.out.under hb (by omega))
    have G_6 := Lib.hid (G_5.out.under hb (by omega))
    clear hb
    go_wp2_with fail
    refine (eqInt64S_same _ aX aU cX cU _ _ _ X_6.out.toL U_6.out.toL HX.out).mono ?_
    rintro e w7 ⟨rfl, nn, hw⟩
    have hb : Below w6.heap.size w6 w7 := hw ▸ bw_drewN (bw_refl _) nn
    clear hw
    have s7 := hb.size
    have B7 := Lib.hid (B6.out.trans (hb.mono (by omega)))
    have T_7 := Lib.hid (T_6.out.under hb (by omega))
    have L_7 := Lib.hid (L_6.out.under hb (by omega))
    have X_7 := Lib.hid (X_6.out.under hb (by omega))
    have G_7 := Lib.hid (G_6.out.under hb (by omega))
    have U_7 := Lib.hid (U_6.out.under hb (by omega))
    clear hb
    go_wp2_with fail
    refine (markInt64S_in _ aX cX _ _ 1 _ X_7.out HX.out (by omega) (by omega)).mono ?_
    rintro e w8 ⟨rfl, ysX, hy1, hy2, hl, hb⟩
    have Y1X := Lib.hid hy1
    have Y2X := Lib.hid hy2
    have X_8 := Lib.hid hl
    clear hy1 hy2 hl
    have s8 := hb.size
    have B8 := Lib.hid (B7.out.trans (hb.below (by omega) (by omega)))
    have T_8 := Lib.hid (T_7.out.far hb (by omega))
    have L_8 := Lib.hid (L_7.out.far hb (by omega))
    have G_8 := Lib.hid (G_7.out.far hb (by omega))
    have U_8 := Lib.hid (U_7.out.far hb (by omega))
    clear hb
    go_wp2_with fail
    refine (eqInt64S_same _ aG aL cG cL _ _ _ G_8.out.toL L_8.out.toL HR.out).mono ?_
    rintro e w9 ⟨rfl, nn, hw⟩
    have hb : Below w8.heap.size w8 w9 := hw ▸ bw_drewN (bw_refl _) nn
    clear hw
    have s9 := hb.size
    have B9 := Lib.hid (B8.out.trans (hb.mono (by omega)))
    have T_9 := Lib.hid (T_8.out.under hb (by omega))
    have L_9 := Lib.hid (L_8.out.under hb (by omega))
    have X_9 := Lib.hid (X_8.out.under hb (by omega))
    have G_9 := Lib.hid (G_8.out.under hb (by omega))
    have U_9 := Lib.hid (U_8.out.under hb (by omega))
    clear hb
    go_wp2_with fail
    refine (markInt64S_in _ aG cG _ _ 1 _ G_9.out HR.out (by omega) (by omega)).mono ?_
    rintro e w10 ⟨rfl, ysG, hy1, hy2, hl, hb⟩
    have Y1G := Lib.hid hy1
    have Y2G := Lib.hid hy2
    have G_10 := Lib.hid hl
    clear hy1 hy2 hl
    have s10 := hb.size
    have B10 := Lib.hid (B9.out.trans (hb.below (by omega) (by omega)))
    have T_10 := Lib.hid (T_9.out.far hb (by omega))
    have L_10 := Lib.hid (L_9.out.far hb (by omega))
    have X_10 := Lib.hid (X_9.out.far hb (by omega))
    have U_10 := Lib.hid (U_9.out.far hb (by omega))
    clear hb
    go_wp2_with fail
    rw [← Y1G.out]
    refine (heldInt64S_any ysG aG cG _ 1 _ G_10.out.toL Y2G.out (by rw [Y1G.out]; exact HR.out) (by omega) (by omega)).mono ?_
    rintro e wx ⟨rfl, rfl⟩
    rw [Y1G.out]
    go_wp2_with fail
    refine (toInt64S_any a len cap zs _ (H.out.below B10.out) hle).mono ?_
    rw [hxs.out]
    rintro e w11 ⟨aV, cV, rfl, hl, hb⟩
    have V_11 := Lib.hid hl.toIn
    clear hl
    have s11 := hb.size
    have B11 := Lib.hid (B10.out.trans (hb.mono (by omega)))
    have T_11 := Lib.hid (T_10.out.under hb (by omega))
    have L_11 := Lib.hid (L_10.out.under hb (by omega))
    have X_11 := Lib.hid (X_10.out.under hb (by omega))
    have G_11 := Lib.hid (G_10.out.under hb (by omega))
    have U_11 := Lib.hid (U_10.out.under hb (by omega))
    clear hb
    go_wp2_with fail
    refine (FactorsFrom_any m xs aV cV _ _ V_11.out.toL HX.out).mono ?_
    rintro e w12 ⟨aK, cK, rfl, hl, hb⟩
    have K_12 := Lib.hid hl.toIn
    clear hl
    have s12 := hb.size
    have B12 := Lib.hid (B11.out.trans (hb.mono (by omega)))
    have T_12 := Lib.hid (T_11.out.under hb (by omega))
    have L_12 := Lib.hid (L_11.out.under hb (by omega))
    have X_12 := Lib.hid (X_11.out.under hb (by omega))
    have G_12 := Lib.hid (G_11.out.under hb (by omega))
    have U_12 := Lib.hid (U_11.out.under hb (by omega))
    have V_12 := Lib.hid (V_11.out.under hb (by omega))
    clear hb
    go_wp2_with fail
    refine (eqInt64S_same _ aK aL cK cL _ _ _ K_12.out.toL L_12.out.toL HR.out).mono ?_
    rintro e w13 ⟨rfl, nn, hw⟩
    have hb : Below w12.heap.size w12 w13 := hw ▸ bw_drewN (bw_refl _) nn
    clear hw
    have s13 := hb.size
    have B13 := Lib.hid (B12.out.trans (hb.mono (by omega)))
    have T_13 := Lib.hid (T_12.out.under hb (by omega))
    have L_13 := Lib.hid (L_12.out.under hb (by omega))
    have X_13 := Lib.hid (X_12.out.under hb (by omega))
    have G_13 := Lib.hid (G_12.out.under hb (by omega))
    have U_13 := Lib.hid (U_12.out.under hb (by omega))
    have V_13 := Lib.hid (V_12.out.under hb (by omega))
    have K_13 := Lib.hid (K_12.out.under hb (by omega))
    clear hb
    go_wp2_with fail
    rw [← Y1G.out]
    refine (heldInt64S_any ysG aG cG _ 1 _ G_13.out.toL Y2G.out (by rw [Y1G.out]; exact HR.out) (by omega) (by omega)).mono ?_
    rintro e wx ⟨rfl, rfl⟩
    rw [Y1G.out]
    go_wp2
    go_ret
    exact ⟨rfl, B13.out⟩
  · clear g1 g2 g3
    go_enter Try.func9, Try.ntmps9
    go_wp2
    go_ret
    exact ⟨rfl, bw_refl _⟩
end Go.Proofs.Ytifigkkghfjhpaa
