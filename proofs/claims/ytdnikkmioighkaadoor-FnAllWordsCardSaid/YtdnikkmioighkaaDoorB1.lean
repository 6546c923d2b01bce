/-
  Contracts of IsBits: the program's (by strings.Trim at an ASCII cutset) and the reference's. No condition.
-/
import Derived.Test.YtdnikkmioighkaaDoorM10
import Derived.Test.YtdnikkmioighkaaDoorShelf
import Derived.Shelf.Strings.SlTrimAscii
namespace Go.Proofs.YtdnikkmioighkaaDoor
open Go.RowKit
set_option linter.unusedVariables false

theorem IsBits_any (s : ByteArray) (w : World) (hs : s.size ≤ 1048576) :
    Calls Tryd.prog 18 #[.string s] w fun e w' => e = .returned (.bool (bitsB s)) ∧ Below w.heap.size w w' := by
  have hT : ∀ w1, Calls Tryd.prog 31 #[.string s, .string ⟨#[48, 49]⟩] w1 fun e w' => e = .returned (.string ⟨(Lib.trimS s.data.toList [48, 49]).toArray⟩) ∧ Below w1.heap.size w1 w' := fun w1 =>
    Any.strings_Trim_laid Tryd.lays160 (by kernel_rfl) s ⟨#[48, 49]⟩ w1 (by omega) (by decide) (ascii_of_all (by decide))
  by_cases hl : s.size ≤ 400
  · by_cases hb : BitsTo s s.size
    · have e : bitsB s = true := by simp [bitsB, hb, hl]
      have e2 := (trim_eq s).2 hb
      rw [e]; clear e
      generalize (⟨(Lib.trimS s.data.toList [48, 49]).toArray⟩ : ByteArray) = t at hT e2
      go_enter Tryd.func18, Tryd.ntmps18
      go_wp2_with (go_at_call 31; refine (hT _).mono ?_; rintro e w' ⟨rfl, hb1⟩)
      go_ret
      exact ⟨rfl, hb1⟩
    · have e : bitsB s = false := by simp [bitsB, hb]
      have e2 : (⟨(Lib.trimS s.data.toList [48, 49]).toArray⟩ : ByteArray).toList.isEmpty = false := Bool.eq_false_iff.2 fun h => hb ((trim_eq s).1 h)
      rw [e]; clear e
      generalize (⟨(Lib.trimS s.data.toList [48, 49]).toArray⟩ : ByteArray) = t at hT e2
      go_enter Tryd.func18, Tryd.ntmps18
      go_wp2_with (go_at_call 31; refine (hT _).mono ?_; rintro e w' ⟨rfl, hb1⟩)
      go_ret
      exact ⟨rfl, hb1⟩
  · rw [bitsB_long hl]
    go_enter Tryd.func18, Tryd.ntmps18
    go_wp2
    go_ret
    exact ⟨rfl, bw_refl _⟩
end Go.Proofs.YtdnikkmioighkaaDoor
