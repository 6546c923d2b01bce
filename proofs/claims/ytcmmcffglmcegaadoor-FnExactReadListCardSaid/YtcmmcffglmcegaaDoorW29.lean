/-
  Walk of the law FnExactReadList: it returns true for every argument, where the listed variables of the library lie as their initialisers lay them.
-/
import Derived.Test.YtcmmcffglmcegaaDoorRl
import Derived.Test.YtcmmcffglmcegaaDoorW26
namespace Go.Proofs.YtcmmcffglmcegaaDoor
open Go.RowKit
set_option linter.unusedVariables false

theorem fk_later {w w' : World} (h : Tab10 w ∧ Errs w ∧ MaxL w) (hb : Below w.heap.size w w') : Tab10 w' ∧ Errs w' ∧ MaxL w' := ⟨h.1.later hb, h.2.1.later hb, h.2.2.later hb⟩
theorem facts_rl {W : World} (h : laidMet Tryd.prog Rows.fnExactReadListRow.laid W) (hsh : W.ShapedOpen Tryd.prog) : Tab10 W ∧ Errs W ∧ MaxL W :=
  ⟨Lib.tabIs_of_head (rest := [("unicode/utf8.acceptRanges", Rows.laid_unicode_utf8_acceptRanges), ("strconv.ErrRange", Rows.laid_strconv_ErrRange), ("strconv.ErrSyntax", Rows.laid_strconv_ErrSyntax), ("unicode/utf8.first", Rows.laid_unicode_utf8_first)]) gTab10r (by kernel_rfl) Tryd.underlying149 Tryd.underlying85 (by kernel_rfl) (by kernel_rfl) h.tail.tail,
    ⟨sentS h.tail.tail.tail.tail.tail, sentR h.tail.tail.tail.tail⟩, Tryd.laysM145.s1_3 W hsh⟩
theorem FnExactReadList_walk0 (s : ByteArray) (w : World) (h_s : ¬ (1048576 : Int) < s.size) (hf : Tab10 w ∧ Errs w ∧ MaxL w) :
    Calls Tryd.prog 7 #[.string s] w fun e w' => e = .returned (.bool true) ∧ Below w.heap.size w w' := by
  have HL := Lib.hid (rlL_len s)
  go_enter Tryd.func7, Tryd.ntmps7
  go_wp2_with fail
  refine (sReadList_any s _ (by omega)).mono ?_
  rintro e w2 ⟨a1, c1', rfl, hl1, hb2⟩
  have HB2 := Lib.hid hb2
  have L1 := Lib.hid hl1
  clear hb2 hl1
  go_wp2_with fail
  refine (ReadList_any s _ (by omega) (fk_later hf HB2.out)).mono ?_
  rintro e w4 ⟨a2, c2', rfl, hl2, hb4⟩
  have D4 := Lib.hid hb4
  have HB4 := Lib.hid (bw_call HB2.out D4.out)
  have L2 := Lib.hid hl2
  have K1 := Lib.hid (L1.out.later D4.out)
  have S4 := Lib.hid D4.out.size
  clear hb4 hl2
  go_wp2_with fail
  refine (eqInt64S_same _ a2 a1 c2' c1' _ _ _ L2.out K1.out HL.out).mono ?_
  rintro e w5 ⟨rfl, n5, rfl⟩
  go_wp2_with fail
  refine (markInt64S_any _ a2 c2' _ 1 _ (L2.out.later (bw_drewN (bw_refl _) n5)) HL.out (by omega) (by omega) S4.out).mono ?_
  rintro e w6 ⟨rfl, ys, hy1, hy2, hl6, hb6⟩
  have Y1 := Lib.hid hy1
  have Y2 := Lib.hid hy2
  have L6 := Lib.hid hl6
  have D6 := Lib.hid (D4.out.trans ((bw_drewN (bw_refl _) n5 : Below w4.heap.size w4 (w4.drewN n5)).mono S4.out) |>.trans hb6)
  have HB6 := Lib.hid (bw_call HB2.out D6.out)
  clear hy1 hy2 hl6 hb6
  go_wp2_with fail
  rw [← Y1.out]
  refine (heldInt64S_any ys a2 c2' _ 1 _ L6.out Y2.out (by rw [Y1.out]; exact HL.out) (by omega) (by omega)).mono ?_
  rintro e w7 ⟨rfl, rfl⟩
  rw [Y1.out]
  go_wp2_with fail
  refine (ReadList_any s _ (by omega) (fk_later hf HB6.out)).mono ?_
  rintro e w9 ⟨a3, c3', rfl, hl3, hb9⟩
  have D9 := Lib.hid hb9
  have HB9 := Lib.hid (bw_call HB6.out D9.out)
  have L3 := Lib.hid hl3
  have K9 := Lib.hid (L1.out.later (bw_call D6.out D9.out))
  have L9 := Lib.hid (L6.out.later D9.out)
  clear hb9 hl3
  go_wp2_with fail
  refine (eqInt64S_same _ a3 a1 c3' c1' _ _ _ L3.out K9.out HL.out).mono ?_
  rintro e w10 ⟨rfl, n10, rfl⟩
  go_wp2_with fail
  rw [← Y1.out]
  refine (heldInt64S_any ys a2 c2' _ 1 _ (L9.out.later (bw_drewN (bw_refl _) n10)) Y2.out (by rw [Y1.out]; exact HL.out) (by omega) (by omega)).mono ?_
  rintro e w11 ⟨rfl, rfl⟩
  rw [Y1.out]
  go_wp2
  go_ret
  exact ⟨rfl, bw_drewN HB9.out _⟩
theorem FnExactReadList_walk (s : ByteArray) (w : World) (w_s : s.size ≤ maxLen) (hf : Tab10 w ∧ Errs w ∧ MaxL w) :
    Calls Tryd.prog 7 #[.string s] w fun e w' => e = .returned (.bool true) ∧ Below w.heap.size w w' := by
  clear w_s
  by_cases h_s : (1048576 : Int) < s.size
  · go_enter Tryd.func7, Tryd.ntmps7
    go_wp2
    go_ret
    exact ⟨rfl, bw_refl _⟩
  · exact FnExactReadList_walk0 s w h_s hf
end Go.Proofs.YtcmmcffglmcegaaDoor
