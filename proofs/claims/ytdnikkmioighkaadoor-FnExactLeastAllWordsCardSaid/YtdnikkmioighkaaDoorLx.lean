/-
  Contract of the reference's l02Lyndon. Condition: the text's length.
-/
import Derived.Test.YtdnikkmioighkaaDoorM26
import Derived.Test.YtdnikkmioighkaaDoorLw
import Derived.Test.YtdnikkmioighkaaDoorOwV
namespace Go.Proofs.YtdnikkmioighkaaDoor
open Go.RowKit
set_option linter.unusedVariables false

theorem strB_drop (l : List UInt8) (n : Nat) : (strB l).extract n l.length = strB (l.drop n) := by
  apply ByteArray.ext
  apply Array.toList_inj.1
  rw [ByteArray.data_extract, Array.toList_extract, strB_list, strB_list]
  simp [List.extract]
  exact List.take_of_length_le (by simp)
theorem lyn_no {l : List UInt8} {k : Nat} (h1 : 1 ≤ k) (h2 : k < l.length) (h : leB (l.drop k) l = true) : lynB l = false := by
  cases hh : lynB l with
  | false => rfl
  | true =>
    have := List.all_eq_true.1 hh k (List.mem_range.2 h2)
    rw [h] at this
    simp at this; omega
theorem lyn_yes {l : List UInt8} (h : ∀ k, 1 ≤ k → k < l.length → leB (l.drop k) l = false) : lynB l = true := by
  refine List.all_eq_true.2 fun k hk => ?_
  by_cases c : k = 0
  · simp [c]
  · rw [h k (by omega) (List.mem_range.1 hk)]; simp
theorem l02Lyndon_any (l : List UInt8) (w : World) (hl : l.length ≤ 1000) (h0 : 1 ≤ l.length) :
    Calls Tryd.prog 12 #[.string (strB l)] w fun e w' => e = .returned (.bool (lynB l)) ∧ w = w' := by
  have hd := fun k => strB_drop l k
  have hsz := strB_size l
  obtain ⟨s, HS⟩ : ∃ s, Hid (strB l = s) := ⟨_, Lib.hid rfl⟩
  have hsl : s.toList = l := by rw [← HS.out, strB_toList]
  simp only [HS.out] at hd hsz ⊢
  rw [← hsz] at hl h0 hd
  have HD := Lib.hid hd
  have HSl := Lib.hid hsl
  have HSz := Lib.hid hsz
  clear hd hsl hsz
  go_enter Tryd.func12, Tryd.ntmps12
  go_wp2
  go_loop [3] (fun i => ∃ k : Nat, k < s.size ∧ i = .int .i64 (k + 1 : Nat) ∧ Hid (∀ j, 1 ≤ j → j < k + 1 → leB (l.drop j) l = false)) (fun i => s.size + 1 - (intOf i).toNat)
  case atStart => exact ⟨0, by omega, rfl, Lib.hid (fun j h1 h2 => by omega)⟩
  case round =>
    obtain ⟨k, hk, rfl, hall⟩ := hrel
    by_cases hlt : k + 1 < s.size
    · obtain ⟨q, HQ⟩ : ∃ q, Hid (k + 1 = q) := ⟨_, Lib.hid rfl⟩
      have hle : (Op.bytesLess (s.extract q s.size).toList s.toList || (s.extract q s.size).toList == s.toList) = leB (l.drop q) l := by
        rw [HD.out q, strB_toList, HSl.out]; rfl
      rw [HQ.out] at hlt ⊢
      have hq1 : 1 ≤ q := by have := HQ.out; omega
      have HA : Hid (leB (l.drop q) l = false → ∀ j, 1 ≤ j → j < q + 1 → leB (l.drop j) l = false) := Lib.hid fun h j h1 h2 => by
        have := HQ.out
        by_cases e : j = q
        · subst e; exact h
        · exact hall.out j h1 (by omega)
      obtain ⟨t, HT⟩ : ∃ t, Hid (s.extract q s.size = t) := ⟨_, Lib.hid rfl⟩
      have ht := HT.out
      rw [ht] at hle
      cases hb : leB (l.drop q) l with
      | true =>
        have HR := Lib.hid (lyn_no hq1 (by rw [← HSz.out]; exact hlt) hb)
        rw [hb] at hle
        clear hb
        go_wp2
        go_ret
        exact ⟨ret_bool HR.out.symm, rfl⟩
      | false =>
        rw [hb] at hle
        have HA2 := Lib.hid (HA.out hb)
        clear hb HA
        go_wp2
        go_round
        case rel => exact ⟨q, hlt, by go_num, HA2⟩
        case measure => simp [intOf]; omega
    · have HR : Hid (lynB l = true) := Lib.hid (lyn_yes fun j h1 h2 => hall.out j h1 (by have := HSz.out; omega))
      go_wp2
      go_ret
      exact ⟨ret_bool HR.out.symm, rfl⟩
end Go.Proofs.YtdnikkmioighkaaDoor
