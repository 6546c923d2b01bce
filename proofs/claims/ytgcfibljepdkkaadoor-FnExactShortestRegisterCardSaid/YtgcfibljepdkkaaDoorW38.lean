/-
  Walks of the laws FnExactWidthsOf, FnExactShortestRegister: each returns true for every argument. No condition.
-/
import Derived.Test.YtgcfibljepdkkaaDoorE7
namespace Go.Proofs.YtgcfibljepdkkaaDoor
open Go.RowKit
set_option linter.unusedVariables false

theorem FnExactWidthsOf_walk0 (s : ByteArray) (w : World) (h_s : ¬ (1048576 : Int) < s.size) :
    Calls Tryd.prog 3 #[.string s] w fun e w' => e = .returned (.bool true) ∧ Below w.heap.size w w' := by
  have HL := Lib.hid (wdR_len s)
  go_enter Tryd.func3, Tryd.ntmps3
  go_wp2_with fail
  refine (sWidthsOf_any s _ (by omega)).mono ?_
  rintro e w2 ⟨a1, c1', rfl, hl1, hb2⟩
  have HB2 := Lib.hid hb2
  have L1 := Lib.hid hl1
  clear hb2 hl1
  go_wp2_with fail
  refine (WidthsOf_any s _ (by omega)).mono ?_
  rintro e w4 ⟨a2, c2', rfl, hl2, hb4⟩
  have D4 := Lib.hid hb4
  have HB4 := Lib.hid (bw_call HB2.out D4.out)
  have L2 := Lib.hid hl2
  have K1 := Lib.hid (L1.out.later D4.out)
  have S4 := Lib.hid D4.out.size
  clear hb4 hl2
  go_wp2_with fail
  refine (eqInt64S_same _ a2 a1 c2' c1' _ _ _ L2.out K1.out HL.out).mono ?_
  rintro e w5 ⟨rfl, n5, rfl⟩
  go_wp2_with fail
  refine (markInt64S_any _ a2 c2' _ 1 _ (L2.out.later (bw_drewN (bw_refl _) n5)) HL.out (by omega) (by omega) S4.out).mono ?_
  rintro e w6 ⟨rfl, ys, hy1, hy2, hl6, hb6⟩
  have Y1 := Lib.hid hy1
  have Y2 := Lib.hid hy2
  have L6 := Lib.hid hl6
  have D6 := Lib.hid (D4.out.trans ((bw_drewN (bw_refl _) n5 : Below w4.heap.size w4 (w4.drewN n5)).mono S4.out) |>.trans hb6)
  have HB6 := Lib.hid (bw_call HB2.out D6.out)
  clear hy1 hy2 hl6 hb6
  go_wp2_with fail
  rw [← Y1.out]
  refine (heldInt64S_any ys a2 c2' _ 1 _ L6.out Y2.out (by rw [Y1.out]; exact HL.out) (by omega) (by omega)).mono ?_
  rintro e w7 ⟨rfl, rfl⟩
  rw [Y1.out]
  go_wp2_with fail
  refine (WidthsOf_any s _ (by omega)).mono ?_
  rintro e w9 ⟨a3, c3', rfl, hl3, hb9⟩
  have D9 := Lib.hid hb9
  have HB9 := Lib.hid (bw_call HB6.out D9.out)
  have L3 := Lib.hid hl3
  have K9 := Lib.hid (L1.out.later (bw_call D6.out D9.out))
  have L9 := Lib.hid (L6.out.later D9.out)
  clear hb9 hl3
  go_wp2_with fail
  refine (eqInt64S_same _ a3 a1 c3' c1' _ _ _ L3.out K9.out HL.out).mono ?_
  rintro e w10 ⟨rfl, n10, rfl⟩
  go_wp2_with fail
  rw [← Y1.out]
  refine (heldInt64S_any ys a2 c2' _ 1 _ (L9.out.later (bw_drewN (bw_refl _) n10)) Y2.out (by rw [Y1.out]; exact HL.out) (by omega) (by omega)).mono ?_
  rintro e w11 ⟨rfl, rfl⟩
  rw [Y1.out]
  go_wp2
  go_ret
  exact ⟨rfl, bw_drewN HB9.out _⟩
theorem FnExactWidthsOf_walk (s : ByteArray) (w : World) (w_s : s.size ≤ maxLen) :
    Calls Tryd.prog 3 #[.string s] w fun e w' => e = .returned (.bool true) ∧ Below w.heap.size w w' := by
  clear w_s
  by_cases h_s : (1048576 : Int) < s.size
  · go_enter Tryd.func3, Tryd.ntmps3
    go_wp2
    go_ret
    exact ⟨rfl, bw_refl _⟩
  · exact FnExactWidthsOf_walk0 s w h_s
theorem eqRegister_same (n d : Int) (w : World) :
    Calls Tryd.prog 13 #[.agg #[.int .i64 n, .int .i64 d], .agg #[.int .i64 n, .int .i64 d]] w fun e w' => e = .returned (.bool true) ∧ Below w.heap.size w w' := by
  go_enter Tryd.func13, Tryd.ntmps13
  go_wp2
  go_ret
  exact ⟨rfl, bw_alloc (bw_alloc (bw_refl _) _) _⟩
set_option maxRecDepth 100000 in
theorem FnExactShortestRegister_walk (s : ByteArray) (w : World) (w_s : s.size ≤ maxLen) :
    Calls Tryd.prog 4 #[.string s] w fun e w' => e = .returned (.bool true) ∧ Below w.heap.size w w' := by
  clear w_s
  by_cases hs : (1048576 : Int) < s.size
  · go_enter Tryd.func4, Tryd.ntmps4
    go_wp2
    go_ret
    exact ⟨rfl, bw_refl _⟩
  · have hs' : s.size ≤ 1048576 := by omega
    have h1 := fun w => sShortestRegister_any s w hs'
    have h2 := fun w => ShortestRegister_any s w hs'
    obtain ⟨b, hb⟩ : ∃ b, srB s = b := ⟨_, rfl⟩
    obtain ⟨W, hW⟩ : ∃ W, srW s = W := ⟨_, rfl⟩
    obtain ⟨T, hT⟩ : ∃ T, srT s = T := ⟨_, rfl⟩
    obtain ⟨S, hS⟩ : ∃ S, srS s = S := ⟨_, rfl⟩
    rw [hb, hW, hT, hS] at h1 h2
    clear hb hW hT hS
    go_enter Tryd.func4, Tryd.ntmps4
    go_wp2_with fail
    refine (h1 _).mono ?_
    rintro e w1 ⟨rfl, hb1⟩
    have HB1 := Lib.hid (bw_alloc hb1 (.cells #[.int .i64 W, .int .i64 T] 29))
    clear h1
    go_wp2_with fail
    refine (h2 _).mono ?_
    rintro e w2 ⟨rfl, hb2⟩
    have HX := Lib.hid ((Blk.new w1 #[.int .i64 W, .int .i64 T] 29).later hb2)
    have HB2 := Lib.hid (bw_call HB1.out hb2)
    have c0 : w2.cell? ⟨w1.heap.size, 0, none⟩ = some (.int .i64 W) := HX.out.cell 0 rfl
    have c1 : w2.cell? ⟨w1.heap.size, 1, none⟩ = some (.int .i64 T) := HX.out.cell 1 rfl
    have l0 := HX.out.lt
    have l1 : ¬ w1.heap.size = w2.heap.size := by omega
    have l2 : ¬ w2.heap.size = w1.heap.size := by omega
    clear h2 hb1 hb2
    go_wp2_with fail
    refine (eqRegister_same W T _).mono ?_
    rintro e w3 ⟨rfl, hb3⟩
    go_wp2
    go_ret
    exact ⟨rfl, bw_call (bw_alloc HB2.out _) hb3⟩
end Go.Proofs.YtgcfibljepdkkaaDoor
