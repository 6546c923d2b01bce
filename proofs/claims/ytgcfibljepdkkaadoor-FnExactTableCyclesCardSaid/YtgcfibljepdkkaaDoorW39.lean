/-
  Walk of the law FnExactTableCycles: it returns true for every argument. No condition.
-/
import Derived.Test.YtgcfibljepdkkaaDoorT6
namespace Go.Proofs.YtgcfibljepdkkaaDoor
open Go.RowKit
set_option linter.unusedVariables false

theorem tcl_len (wd : Int) (s : ByteArray) : (nl (tcL wd s)).length < 1000000000000 := by
  rw [nl_len]
  unfold tcL
  split
  · rename_i h
    obtain ⟨_, out, h2, h3⟩ := Classical.choose_spec h.2
    obtain ⟨W, _, hW, _, hn⟩ := tcB_true h.1
    have h4 := h2.len
    have h5 : s.size ≤ 64 := by rw [hn]; exact Nat.le_trans (Nat.pow_le_pow_right (by decide) hW) (by decide)
    rw [h3.length_eq]
    omega
  · simp
theorem FnExactTableCycles_walk0 (wd : Int) (s : ByteArray) (w : World) (h_s : ¬ (1048576 : Int) < s.size) :
    Calls Tryd.prog 5 #[.int .i64 wd, .string s] w fun e w' => e = .returned (.bool true) ∧ Below w.heap.size w w' := by
  have HL := Lib.hid (tcl_len wd s)
  go_enter Tryd.func5, Tryd.ntmps5
  go_wp2_with fail
  refine (sTableCycles_any wd s _ (by omega)).mono ?_
  rintro e w2 ⟨a1, c1', rfl, hl1, hb2⟩
  have HB2 := Lib.hid hb2
  have L1 := Lib.hid hl1
  clear hb2 hl1
  go_wp2_with fail
  refine (TableCycles_any wd s _ (by omega)).mono ?_
  rintro e w4 ⟨a2, c2', rfl, hl2, hb4⟩
  have D4 := Lib.hid hb4
  have HB4 := Lib.hid (bw_call HB2.out D4.out)
  have L2 := Lib.hid hl2
  have K1 := Lib.hid (L1.out.later D4.out)
  have S4 := Lib.hid D4.out.size
  clear hb4 hl2
  go_wp2_with fail
  refine (eqInt64S_same _ a2 a1 c2' c1' _ _ _ L2.out K1.out HL.out).mono ?_
  rintro e w5 ⟨rfl, n5, rfl⟩
  go_wp2_with fail
  refine (markInt64S_any _ a2 c2' _ 1 _ (L2.out.later (bw_drewN (bw_refl _) n5)) HL.out (by omega) (by omega) S4.out).mono ?_
  rintro e w6 ⟨rfl, ys, hy1, hy2, hl6, hb6⟩
  have Y1 := Lib.hid hy1
  have Y2 := Lib.hid hy2
  have L6 := Lib.hid hl6
  have D6 := Lib.hid (D4.out.trans ((bw_drewN (bw_refl _) n5 : Below w4.heap.size w4 (w4.drewN n5)).mono S4.out) |>.trans hb6)
  have HB6 := Lib.hid (bw_call HB2.out D6.out)
  clear hy1 hy2 hl6 hb6
  go_wp2_with fail
  rw [← Y1.out]
  refine (heldInt64S_any ys a2 c2' _ 1 _ L6.out Y2.out (by rw [Y1.out]; exact HL.out) (by omega) (by omega)).mono ?_
  rintro e w7 ⟨rfl, rfl⟩
  rw [Y1.out]
  go_wp2_with fail
  refine (TableCycles_any wd s _ (by omega)).mono ?_
  rintro e w9 ⟨a3, c3', rfl, hl3, hb9⟩
  have D9 := Lib.hid hb9
  have HB9 := Lib.hid (bw_call HB6.out D9.out)
  have L3 := Lib.hid hl3
  have K9 := Lib.hid (L1.out.later (bw_call D6.out D9.out))
  have L9 := Lib.hid (L6.out.later D9.out)
  clear hb9 hl3
  go_wp2_with fail
  refine (eqInt64S_same _ a3 a1 c3' c1' _ _ _ L3.out K9.out HL.out).mono ?_
  rintro e w10 ⟨rfl, n10, rfl⟩
  go_wp2_with fail
  rw [← Y1.out]
  refine (heldInt64S_any ys a2 c2' _ 1 _ (L9.out.later (bw_drewN (bw_refl _) n10)) Y2.out (by rw [Y1.out]; exact HL.out) (by omega) (by omega)).mono ?_
  rintro e w11 ⟨rfl, rfl⟩
  rw [Y1.out]
  go_wp2
  go_ret
  exact ⟨rfl, bw_drewN HB9.out _⟩
theorem FnExactTableCycles_walk (wd : Int) (s : ByteArray) (w : World) (w_w : (Lit.int .i64 wd).wf = true) (w_s : s.size ≤ maxLen) :
    Calls Tryd.prog 5 #[.int .i64 wd, .string s] w fun e w' => e = .returned (.bool true) ∧ Below w.heap.size w w' := by
  clear w_s w_w
  by_cases h_s : (1048576 : Int) < s.size
  · go_enter Tryd.func5, Tryd.ntmps5
    go_wp2
    go_ret
    exact ⟨rfl, bw_refl _⟩
  · exact FnExactTableCycles_walk0 wd s w h_s
end Go.Proofs.YtgcfibljepdkkaaDoor
