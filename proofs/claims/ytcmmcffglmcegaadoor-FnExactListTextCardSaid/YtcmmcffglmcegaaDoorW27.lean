/-
  Walk of the law FnExactListText: it returns true for every argument, where the library's table of the powers of ten lies as its initialiser lays it.
-/
import Derived.Test.YtcmmcffglmcegaaDoorTx
import Derived.Stop.LaidErr
namespace Go.Proofs.YtcmmcffglmcegaaDoor
open Go.RowKit
set_option linter.unusedVariables false

/-- ListText's text. -/
def lxS (xs : List Int) : ByteArray := if liB xs = true then ltS xs else ⟨#[]⟩
theorem sListText_any (xs : List Int) (a : Option Addr) (c base : Nat) (w : World) (h : HasL base w a c xs) (hx : xs.length < 1000000000000) :
    Calls Tryd.prog 12 #[.slice a xs.length c] w fun e w' => e = .returned (.tuple #[.string (lxS xs), .bool (liB xs)]) ∧ Below w.heap.size w w' := by
  have hL := l01List_any xs a c base w h hx
  cases hb : liB xs with
  | false =>
    have e : lxS xs = ⟨#[]⟩ := by simp [lxS, hb]
    rw [e]; clear e
    rw [hb] at hL
    go_enter Tryd.func12, Tryd.ntmps12
    go_wp2_with (go_at_call 38; refine hL.mono ?_; rintro e w' ⟨rfl, rfl⟩)
    go_ret2
    exact ⟨rfl, bw_refl _⟩
  | true =>
    have e : lxS xs = ltS xs := by simp [lxS, hb]
    rw [e]; clear e
    have b := liB_true hb
    rw [hb] at hL
    have hT := l01Text_any xs a c base w h b.1 b.2
    generalize ltS xs = t at hT ⊢
    go_enter Tryd.func12, Tryd.ntmps12
    go_wp2_with (first | (go_at_call 38; refine hL.mono ?_; rintro e w' ⟨rfl, rfl⟩) | (go_at_call 39; refine hT.mono ?_; rintro e w1 ⟨rfl, hb1⟩))
    go_ret2
    exact ⟨rfl, hb1⟩
theorem ListText_any (xs : List Int) (a : Option Addr) (c base : Nat) (w : World) (h : HasL base w a c xs) (hx : xs.length < 1000000000000) (ht : Tab10 w) :
    Calls Tryd.prog 14 #[.slice a xs.length c] w fun e w' => e = .returned (.tuple #[.string (lxS xs), .bool (liB xs)]) ∧ Below w.heap.size w w' := by
  have hL := isList_any xs a c base w h hx
  cases hb : liB xs with
  | false =>
    have e : lxS xs = ⟨#[]⟩ := by simp [lxS, hb]
    rw [e]; clear e
    rw [hb] at hL
    go_enter Tryd.func14, Tryd.ntmps14
    go_wp2_with (go_at_call 40; refine hL.mono ?_; rintro e w1 ⟨rfl, hb1⟩)
    go_ret2
    exact ⟨rfl, hb1⟩
  | true =>
    have e : lxS xs = ltS xs := by simp [lxS, hb]
    rw [e]; clear e
    have b := liB_true hb
    rw [hb] at hL
    have hT := fun w1 (hb1 : Below w.heap.size w w1) => listText_any xs a c base w1 (h.later hb1) b.1 b.2 (ht.later hb1)
    generalize ltS xs = t at hT ⊢
    go_enter Tryd.func14, Tryd.ntmps14
    go_wp2_with fail
    refine hL.mono ?_
    rintro e w1 ⟨rfl, hb1⟩
    have hT1 := hT w1 hb1
    go_wp2_with fail
    refine hT1.mono ?_
    rintro e w2 ⟨rfl, hb2⟩
    go_wp2
    go_ret2
    exact ⟨rfl, bw_call hb1 hb2⟩
theorem gTab10l : Tryd.prog.globalNamed "internal/strconv.uint64pow10" = some 3 := by kernel_rfl
theorem tab10_lt {W : World} (h : laidMet Tryd.prog Rows.fnExactListTextRow.laid W) : Tab10 W :=
  Lib.tabIs_of_head (rest := []) gTab10l (by kernel_rfl) Tryd.underlying149 Tryd.underlying85 (by kernel_rfl) (by kernel_rfl) h.tail.tail
theorem FnExactListText_walk (a : Option Addr) (len cap : Nat) (zs : List Int) (w : World) (h : IsRow .i64 w a len cap zs) (ht : Tab10 w) :
    Calls Tryd.prog 4 #[.slice a len cap] w fun e w' => e = .returned (.bool true) ∧ Below w.heap.size w w' := by
  obtain ⟨_, g2, g3⟩ := h.len_le
  by_cases hs : (1048576 : Int) < len
  · clear h
    go_enter Tryd.func4, Tryd.ntmps4
    go_wp2
    go_ret
    exact ⟨rfl, bw_refl _⟩
  · have H := Lib.hid h
    clear h
    have hl : len ≤ 1048576 := by omega
    have HX : Hid ((zs.take len).length < 1000000000000) := Lib.hid (by rw [List.length_take]; omega)
    obtain ⟨xs, hxs⟩ : ∃ xs, zs.take len = xs := ⟨_, rfl⟩
    have hTo : ∀ w1, Below w.heap.size w w1 → Calls Tryd.prog 13 #[.slice a len cap] w1 (RetL1 xs w1) := fun w1 hb => by
      rw [← hxs]
      exact toInt64S_any a len cap zs w1 (H.out.below hb) hl
    rw [hxs] at HX
    clear hxs
    have hTo0 := hTo w (bw_refl _)
    go_enter Tryd.func4, Tryd.ntmps4
    go_wp2_with fail
    refine hTo0.mono ?_
    rintro e w1 ⟨a1, c1, rfl, hl1, hb1⟩
    go_wp2_with fail
    refine (sListText_any xs a1 c1 _ _ hl1 HX.out).mono ?_
    rintro e w2 ⟨rfl, hb2⟩
    have HB2 := Lib.hid (bw_call hb1 hb2)
    clear hl1 hb1 hb2 hTo0
    have hTo2 := hTo w2 HB2.out
    go_wp2_with fail
    refine hTo2.mono ?_
    rintro e w3 ⟨a3, c3, rfl, hl3, hb3⟩
    have HB3 := Lib.hid (bw_call HB2.out hb3)
    have HL3 := Lib.hid hl3
    clear hb3 HB2 hTo2 hl3
    go_wp2_with fail
    refine (ListText_any xs a3 c3 _ _ HL3.out HX.out (ht.later HB3.out)).mono ?_
    rintro e w4 ⟨rfl, hb4⟩
    have HB4 := Lib.hid (bw_call HB3.out hb4)
    have HL4 := Lib.hid (HL3.out.later hb4)
    clear hb4 HB3 HL3
    have hTo4 := hTo w4 HB4.out
    go_wp2_with fail
    refine hTo4.mono ?_
    rintro e w5 ⟨a5, c5, rfl, hl5, hb5⟩
    have HB5 := Lib.hid (bw_call HB4.out hb5)
    have HL5 := Lib.hid (HL4.out.later hb5)
    have HM5 := Lib.hid hl5
    clear hb5 HB4 HL4 hTo4 hl5
    go_wp2_with fail
    refine (eqInt64S_same xs a3 a5 c3 c5 _ _ _ HL5.out HM5.out HX.out).mono ?_
    rintro e w6 ⟨rfl, n6, rfl⟩
    go_wp2
    go_ret
    exact ⟨rfl, bw_drewN HB5.out _⟩
end Go.Proofs.YtcmmcffglmcegaaDoor
