/-
  Contracts of the functions that walk over a string: IsName, CheckOf. No condition.
-/
import Derived.Test.YtecojhgoeackcaaC1
namespace Go.Proofs.Ytecojhgoeackcaa
open Go.RowKit
set_option linter.unusedVariables false

/-- The first k bytes are small letters. -/
def AllLow (s : ByteArray) (k : Nat) : Prop := ∀ j (h : j < s.size), j < k → 97 ≤ s[j].toNat ∧ s[j].toNat ≤ 122
open Classical in
/-- A name: one to ten small letters. -/
noncomputable def isNameB (s : ByteArray) : Bool := decide (AllLow s s.size) && inR s.size 1 10
theorem AllLow.zero (s : ByteArray) : AllLow s 0 := fun _ _ h => by omega
theorem AllLow.succ {s : ByteArray} {k : Nat} (h : AllLow s k) (hk : k < s.size) (h1 : 97 ≤ s[k].toNat) (h2 : s[k].toNat ≤ 122) : AllLow s (k + 1) := fun j hj hl => by
  by_cases e : j = k
  · subst e; exact ⟨h1, h2⟩
  · exact h j hj (by omega)
theorem isNameB_bad {s : ByteArray} {k : Nat} (hk : k < s.size) (h : s[k].toNat < 97 ∨ 122 < s[k].toNat) : isNameB s = false := by
  have : ¬ AllLow s s.size := fun g => by have := g k hk hk; omega
  simp [isNameB, this]
theorem isNameB_all {s : ByteArray} (h : AllLow s s.size) : isNameB s = inR s.size 1 10 := by simp [isNameB, h]

theorem sIsName_any (s : ByteArray) (w : World) (hs : s.size ≤ 1048576) :
    Calls Try.prog 15 #[.string s] w fun e w' => e = .returned (.bool (isNameB s)) ∧ w = w' := by
  go_enter Try.func15, Try.ntmps15
  go_wp2
  go_loop [3] (fun i => ∃ k : Nat, k ≤ s.size ∧ i = .int .i64 k ∧ AllLow s k) (fun i => s.size - (intOf i).toNat)
  case atStart => exact ⟨0, Nat.zero_le _, rfl, AllLow.zero s⟩
  case round =>
    obtain ⟨k, hk, rfl, hall⟩ := hrel
    by_cases hlt : k < s.size
    · by_cases ha : (s[k].toNat : Int) < 97
      · go_wp2
        go_ret
        exact ⟨ret_bool (isNameB_bad hlt (by omega)).symm, rfl⟩
      · by_cases hb : (122 : Int) < (s[k].toNat : Int)
        · go_wp2
          go_ret
          exact ⟨ret_bool (isNameB_bad hlt (by omega)).symm, rfl⟩
        · go_wp2
          go_round
          case rel => exact ⟨k + 1, by omega, by go_num, hall.succ hlt (by omega) (by omega)⟩
          case measure => simp [intOf]; omega
    · have hke : k = s.size := by omega
      subst hke
      have e := isNameB_all hall
      by_cases h1 : 1 ≤ s.size
      · go_wp2
        go_ret
        exact ⟨ret_bool (by simp [inR]; try omega), rfl⟩
      · go_wp2
        go_ret
        exact ⟨ret_bool (by simp [inR]; try omega), rfl⟩
theorem IsName_any (s : ByteArray) (w : World) (hs : s.size ≤ 1048576) :
    Calls Try.prog 16 #[.string s] w fun e w' => e = .returned (.bool (isNameB s)) ∧ w = w' := by
  go_enter Try.func16, Try.ntmps16
  go_wp2
  go_loop [6, 3] (fun i _ => ∃ k : Nat, k ≤ s.size ∧ i = .int .i64 k ∧ AllLow s k) (fun i _ => s.size - (intOf i).toNat)
  case atStart => exact ⟨0, Nat.zero_le _, rfl, AllLow.zero s⟩
  case round =>
    obtain ⟨k, hk, rfl, hall⟩ := hrel
    by_cases hlt : k < s.size
    · by_cases ha : (s[k].toNat : Int) < 97
      · go_wp2
        go_ret
        exact ⟨ret_bool (isNameB_bad hlt (by omega)).symm, rfl⟩
      · by_cases hb : (122 : Int) < (s[k].toNat : Int)
        · go_wp2
          go_ret
          exact ⟨ret_bool (isNameB_bad hlt (by omega)).symm, rfl⟩
        · go_wp2
          go_round
          case rel => exact ⟨k + 1, by omega, by go_num, hall.succ hlt (by omega) (by omega)⟩
          case measure => simp [intOf]; omega
    · have hke : k = s.size := by omega
      subst hke
      have e := isNameB_all hall
      go_wp2_with (go_at_call 23; refine (inRange_any _ _ _ _).mono ?_; rintro e w' ⟨rfl, rfl⟩)
      go_ret
      exact ⟨ret_bool e.symm, rfl⟩
/-- The check number behind the bytes. -/
def ckOf (n : Int) (l : List UInt8) : Int := l.foldl (fun n c => (4099 * n + c.toNat + 1) % 999983) n
theorem ckOf_snoc (n : Int) (l : List UInt8) (c : UInt8) : ckOf n (l ++ [c]) = (4099 * ckOf n l + c.toNat + 1) % 999983 := by simp [ckOf]
theorem ckOf_bd {n : Int} (h0 : 0 ≤ n) (h1 : n ≤ 999982) (l : List UInt8) : 0 ≤ ckOf n l ∧ ckOf n l ≤ 999982 := by
  induction l generalizing n with
  | nil => exact ⟨h0, h1⟩
  | cons c l ih => exact ih (n := (4099 * n + c.toNat + 1) % 999983) (by omega) (by omega)
theorem ckOf_append (n : Int) (l l' : List UInt8) : ckOf n (l ++ l') = ckOf (ckOf n l) l' := by simp [ckOf]
theorem take_snoc (s : ByteArray) (k : Nat) (h : k < s.size) : s.data.toList.take (k + 1) = s.data.toList.take k ++ [s[k]] := by
  rw [List.take_succ_eq_append_getElem (by simpa using h)]; rfl
theorem take_all (s : ByteArray) : s.data.toList.take s.size = s.data.toList := List.take_of_length_le (by simp)

theorem l01Check_any (n : Int) (s : ByteArray) (w : World) (h0 : 0 ≤ n) (h1 : n ≤ 999982) (hs : s.size ≤ maxLen) :
    Calls Try.prog 26 #[.int .i64 n, .string s] w fun e w' => e = .returned (.int .i64 (ckOf n s.data.toList)) ∧ w = w' := by
  unfold maxLen at hs
  go_enter Try.func26, Try.ntmps26
  go_wp2
  go_loop [0, 5] (fun c i => ∃ k : Nat, k ≤ s.size ∧ i = .int .i64 k ∧ c = .int .i64 (ckOf n (s.data.toList.take k))) (fun _ i => s.size - (intOf i).toNat)
  case atStart => exact ⟨0, Nat.zero_le _, rfl, rfl⟩
  case round =>
    obtain ⟨k, hk, rfl, rfl⟩ := hrel
    have hb := ckOf_bd h0 h1 (s.data.toList.take k)
    by_cases hlt : k < s.size
    · have hc : s[k].toNat < 256 := s[k].toNat_lt
      have HS := Lib.hid (ckOf_snoc n (s.data.toList.take k) s[k])
      have HT := Lib.hid (take_snoc s k hlt)
      go_wp2
      go_round
      case rel => exact ⟨k + 1, by omega, by go_num, by rw [HT.out, HS.out]⟩
      case measure => simp [intOf]; omega
    · have hke : k = s.size := by omega
      subst hke
      go_wp2
      go_ret
      exact ⟨ret_i64 (by rw [take_all]), rfl⟩
theorem checkOf_any (n : Int) (s : ByteArray) (w : World) (h0 : 0 ≤ n) (h1 : n ≤ 999982) (hs : s.size ≤ maxLen) :
    Calls Try.prog 27 #[.int .i64 n, .string s] w fun e w' => e = .returned (.int .i64 (ckOf n s.data.toList)) ∧ w = w' := by
  unfold maxLen at hs
  go_enter Try.func27, Try.ntmps27
  go_wp2
  go_loop [0, 5, 8] (fun c _ i => ∃ k : Nat, k ≤ s.size ∧ i = .int .i64 k ∧ c = .int .i64 (ckOf n (s.data.toList.take k))) (fun _ _ i => s.size - (intOf i).toNat)
  case atStart => exact ⟨0, Nat.zero_le _, rfl, rfl⟩
  case round =>
    obtain ⟨k, hk, rfl, rfl⟩ := hrel
    have hb := ckOf_bd h0 h1 (s.data.toList.take k)
    by_cases hlt : k < s.size
    · have hc : s[k].toNat < 256 := s[k].toNat_lt
      have HS := Lib.hid (ckOf_snoc n (s.data.toList.take k) s[k])
      have HT := Lib.hid (take_snoc s k hlt)
      go_wp2
      go_round
      case rel => exact ⟨k + 1, by omega, by go_num, by rw [HT.out, HS.out]⟩
      case measure => simp [intOf]; omega
    · have hke : k = s.size := by omega
      subst hke
      go_wp2
      go_ret
      exact ⟨ret_i64 (by rw [take_all]), rfl⟩
/-- CheckOf's two results. -/
def ckN (n : Int) (l : List UInt8) : Int := if inR n 0 999982 = true then ckOf n l else 0
theorem sCheckOf_any (n : Int) (s : ByteArray) (w : World) (hs : s.size ≤ maxLen) :
    Calls Try.prog 17 #[.int .i64 n, .string s] w fun e w' => e = .returned (.tuple #[.int .i64 (ckN n s.data.toList), .bool (inR n 0 999982)]) ∧ w = w' := by
  cases h : inR n 0 999982 with
  | false =>
    have hk : ckN n s.data.toList = 0 := by simp [ckN, h]
    rw [hk]; clear hk
    go_enter Try.func17, Try.ntmps17
    go_wp2_with (go_at_call 25; refine (l00In_of h _).mono ?_; rintro e w' ⟨rfl, rfl⟩)
    go_ret2
    exact ⟨rfl, rfl⟩
  | true =>
    have hk : ckN n s.data.toList = ckOf n s.data.toList := by simp [ckN, h]
    rw [hk]; clear hk
    have hb := inR_true h
    go_enter Try.func17, Try.ntmps17
    go_wp2_with (first | (go_at_call 25; refine (l00In_of h _).mono ?_; rintro e w' ⟨rfl, rfl⟩) | (go_at_call 26; refine (l01Check_any n s _ hb.1 hb.2 hs).mono ?_; rintro e w' ⟨rfl, rfl⟩))
    go_ret2
    exact ⟨rfl, rfl⟩
theorem CheckOf_any (n : Int) (s : ByteArray) (w : World) (hs : s.size ≤ maxLen) :
    Calls Try.prog 18 #[.int .i64 n, .string s] w fun e w' => e = .returned (.tuple #[.int .i64 (ckN n s.data.toList), .bool (inR n 0 999982)]) ∧ w = w' := by
  cases h : inR n 0 999982 with
  | false =>
    have hk : ckN n s.data.toList = 0 := by simp [ckN, h]
    rw [hk]; clear hk
    go_enter Try.func18, Try.ntmps18
    go_wp2_with (go_at_call 23; refine (inRange_of h _).mono ?_; rintro e w' ⟨rfl, rfl⟩)
    go_ret2
    exact ⟨rfl, rfl⟩
  | true =>
    have hk : ckN n s.data.toList = ckOf n s.data.toList := by simp [ckN, h]
    rw [hk]; clear hk
    have hb := inR_true h
    go_enter Try.func18, Try.ntmps18
    go_wp2_with (first | (go_at_call 23; refine (inRange_of h _).mono ?_; rintro e w' ⟨rfl, rfl⟩) | (go_at_call 27; refine (checkOf_any n s _ hb.1 hb.2 hs).mono ?_; rintro e w' ⟨rfl, rfl⟩))
    go_ret2
    exact ⟨rfl, rfl⟩
end Go.Proofs.Ytecojhgoeackcaa
