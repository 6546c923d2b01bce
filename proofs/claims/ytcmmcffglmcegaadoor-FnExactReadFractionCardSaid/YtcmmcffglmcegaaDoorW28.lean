/-
  Walk of the law FnExactReadFraction: it returns true for every argument, where the listed variables of the library lie as their initialisers lay them.
-/
import Derived.Test.YtcmmcffglmcegaaDoorRf
import Derived.Test.YtcmmcffglmcegaaDoorC9
import Derived.Test.YtcmmcffglmcegaaDoorW26
namespace Go.Proofs.YtcmmcffglmcegaaDoor
open Go.RowKit
set_option linter.unusedVariables false

theorem sReadFraction_any (s : ByteArray) (w : World) (hs : s.size ≤ 1048576) :
    Calls Tryd.prog 18 #[.string s] w fun e w' => FracR (rfB s) (rfP s).1 (rfP s).2 w e w' := by
  obtain ⟨rb, hb⟩ : ∃ b, rfB s = b := ⟨_, rfl⟩
  obtain ⟨rn, hn⟩ : ∃ n, (rfP s).1 = n := ⟨_, rfl⟩
  obtain ⟨rd, hd⟩ : ∃ d, (rfP s).2 = d := ⟨_, rfl⟩
  have h := fun w => l01FRead_any s w hs
  rw [hb, hn, hd] at *
  go_enter Tryd.func18, Tryd.ntmps18
  go_wp2_with fail
  refine (h _).mono ?_
  rintro e w1 ⟨rfl, hb1⟩
  have c0 := cell_new hb1 0 rfl
  have c1 := cell_new hb1 1 rfl
  have f0 := free_new hb1 0
  have f1 := free_new hb1 1
  go_wp2
  refine bodyPost_ret (v := .tuple #[.agg #[.int .i64 rn, .int .i64 rd], .bool rb]) (by simp [results, Tryd.results18, go_sem, *]) rfl ⟨rfl, ?_⟩
  exact bw_setCell (bw_setCell (bw_call (bw_alloc (bw_refl _) _) hb1) (Nat.le_refl _) _) (Nat.le_refl _) _
theorem facts_rf {W : World} (h : laidMet Tryd.prog Rows.fnExactReadFractionRow.laid W) (hsh : W.ShapedOpen Tryd.prog) : Tab10 W ∧ Errs W ∧ MaxL W :=
  ⟨Lib.tabIs_of_head (rest := [("strconv.ErrRange", Rows.laid_strconv_ErrRange), ("strconv.ErrSyntax", Rows.laid_strconv_ErrSyntax)]) gTab10r (by kernel_rfl) Tryd.underlying149 Tryd.underlying85 (by kernel_rfl) (by kernel_rfl) h.tail.tail,
    ⟨sentS h.tail.tail.tail.tail, sentR h.tail.tail.tail⟩, Tryd.laysM145.s1_3 W hsh⟩
set_option maxRecDepth 100000 in
theorem FnExactReadFraction_walk (s : ByteArray) (w : World) (w_s : s.size ≤ maxLen) (hf : Tab10 w ∧ Errs w ∧ MaxL w) :
    Calls Tryd.prog 6 #[.string s] w fun e w' => e = .returned (.bool true) ∧ Below w.heap.size w w' := by
  clear w_s
  by_cases hs : (1048576 : Int) < s.size
  · go_enter Tryd.func6, Tryd.ntmps6
    go_wp2
    go_ret
    exact ⟨rfl, bw_refl _⟩
  · have hs' : s.size ≤ 1048576 := by omega
    obtain ⟨rb, hb⟩ : ∃ b, rfB s = b := ⟨_, rfl⟩
    obtain ⟨rn, hn⟩ : ∃ n, (rfP s).1 = n := ⟨_, rfl⟩
    obtain ⟨rd, hd⟩ : ∃ d, (rfP s).2 = d := ⟨_, rfl⟩
    have h1 := fun w => sReadFraction_any s w hs'
    have h2 := fun w a b c => ReadFraction_any s w hs' a b c
    rw [hb, hn, hd] at h1 h2
    clear hb hn hd
    go_enter Tryd.func6, Tryd.ntmps6
    go_wp2_with fail
    refine (h1 _).mono ?_
    rintro e w1 ⟨rfl, hb1⟩
    go_wp2_with fail
    have HB1 := Lib.hid (bw_alloc hb1 (.cells #[.int .i64 rn, .int .i64 rd] 26))
    have H2 := h2 _ (hf.1.later HB1.out) (hf.2.1.later HB1.out) (hf.2.2.later HB1.out)
    refine H2.mono ?_
    rintro e w2 ⟨rfl, hb2⟩
    have HX := Lib.hid ((Blk.new w1 #[.int .i64 rn, .int .i64 rd] 26).later hb2)
    have HB2 := Lib.hid (bw_call HB1.out hb2)
    have c0 : w2.cell? ⟨w1.heap.size, 0, none⟩ = some (.int .i64 rn) := HX.out.cell 0 rfl
    have c1 : w2.cell? ⟨w1.heap.size, 1, none⟩ = some (.int .i64 rd) := HX.out.cell 1 rfl
    have l0 := HX.out.lt
    have l1 : ¬ w1.heap.size = w2.heap.size := by omega
    have l2 : ¬ w2.heap.size = w1.heap.size := by omega
    clear h1 h2 H2 hb1 hb2
    go_wp2_with fail
    refine (eqFraction_same rn rd _).mono ?_
    rintro e w3 ⟨rfl, hb3⟩
    go_wp2
    go_ret
    exact ⟨rfl, bw_call (bw_alloc HB2.out _) hb3⟩
end Go.Proofs.YtcmmcffglmcegaaDoor
