/-
  Contracts of IsBits: the program's (by strings.Trim at an ASCII cutset) and the reference's. No condition.
-/
import Derived.Test.YtgcfibljepdkkaaDoorM10
import Derived.Test.YtgcfibljepdkkaaDoorShelf
import Derived.Shelf.Strings.SlTrimAscii
namespace Go.Proofs.YtgcfibljepdkkaaDoor
open Go.RowKit
set_option linter.unusedVariables false

theorem l01Bits_any (s : ByteArray) (w : World) (hs : s.size ≤ 1048576) :
    Calls Tryd.prog 29 #[.string s] w fun e w' => e = .returned (.bool (bitsB s)) ∧ w = w' := by
  go_enter Tryd.func29, Tryd.ntmps29
  go_wp2
  go_loop [3] (fun i => ∃ k : Nat, k ≤ s.size ∧ i = .int .i64 k ∧ BitsTo s k) (fun i => s.size - (intOf i).toNat)
  case atStart => exact ⟨0, Nat.zero_le _, rfl, BitsTo.zero s⟩
  case round =>
    obtain ⟨k, hk, rfl, hall⟩ := hrel
    by_cases hlt : k < s.size
    · by_cases ha : (s[k].toNat : Int) = 48
      · go_wp2
        go_round
        case rel => exact ⟨k + 1, by omega, by go_num, hall.succ hlt (.inl (by omega))⟩
        case measure => simp [intOf]; omega
      · by_cases hb : (s[k].toNat : Int) = 49
        · go_wp2
          go_round
          case rel => exact ⟨k + 1, by omega, by go_num, hall.succ hlt (.inr (by omega))⟩
          case measure => simp [intOf]; omega
        · have n1 : ((s[k].toNat : Int) != 48) = true := bne_iff_ne.2 ha
          have n2 : ((s[k].toNat : Int) != 49) = true := bne_iff_ne.2 hb
          go_wp2
          go_ret
          exact ⟨ret_bool (bitsB_bad hlt (by omega) (by omega)).symm, rfl⟩
    · have hke : k = s.size := by omega
      subst hke
      have e := bitsB_all hall
      by_cases hl : s.size ≤ 400
      · go_wp2
        go_ret
        exact ⟨ret_bool (by simp; omega), rfl⟩
      · go_wp2
        go_ret
        exact ⟨ret_bool (by simp; omega), rfl⟩
theorem IsBits_any (s : ByteArray) (w : World) (hs : s.size ≤ 1048576) :
    Calls Tryd.prog 25 #[.string s] w fun e w' => e = .returned (.bool (bitsB s)) ∧ Below w.heap.size w w' := by
  have hT : ∀ w1, Calls Tryd.prog 34 #[.string s, .string ⟨#[48, 49]⟩] w1 fun e w' => e = .returned (.string ⟨(Lib.trimS s.data.toList [48, 49]).toArray⟩) ∧ Below w1.heap.size w1 w' := fun w1 =>
    Any.strings_Trim_laid Tryd.lays160 (by kernel_rfl) s ⟨#[48, 49]⟩ w1 (by omega) (by decide) (ascii_of_all (by decide))
  by_cases hl : s.size ≤ 400
  · by_cases hb : BitsTo s s.size
    · have e : bitsB s = true := by simp [bitsB, hb, hl]
      have e2 := (trim_eq s).2 hb
      rw [e]; clear e
      generalize (⟨(Lib.trimS s.data.toList [48, 49]).toArray⟩ : ByteArray) = t at hT e2
      go_enter Tryd.func25, Tryd.ntmps25
      go_wp2_with (go_at_call 34; refine (hT _).mono ?_; rintro e w' ⟨rfl, hb1⟩)
      go_ret
      exact ⟨rfl, hb1⟩
    · have e : bitsB s = false := by simp [bitsB, hb]
      have e2 : (⟨(Lib.trimS s.data.toList [48, 49]).toArray⟩ : ByteArray).toList.isEmpty = false := Bool.eq_false_iff.2 fun h => hb ((trim_eq s).1 h)
      rw [e]; clear e
      generalize (⟨(Lib.trimS s.data.toList [48, 49]).toArray⟩ : ByteArray) = t at hT e2
      go_enter Tryd.func25, Tryd.ntmps25
      go_wp2_with (go_at_call 34; refine (hT _).mono ?_; rintro e w' ⟨rfl, hb1⟩)
      go_ret
      exact ⟨rfl, hb1⟩
  · rw [bitsB_long hl]
    go_enter Tryd.func25, Tryd.ntmps25
    go_wp2
    go_ret
    exact ⟨rfl, bw_refl _⟩
end Go.Proofs.YtgcfibljepdkkaaDoor
