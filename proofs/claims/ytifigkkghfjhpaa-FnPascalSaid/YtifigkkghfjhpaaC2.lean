/-
  Contracts of the functions that walk over a string: IsName, CheckOf. No condition.
-/
import Derived.Test.YtifigkkghfjhpaaC1
namespace Go.Proofs.Ytifigkkghfjhpaa
open Go.RowKit
set_option linter.unusedVariables false

/-- The first k bytes are small letters. -/
def AllLow (s : ByteArray) (k : Nat) : Prop := ∀ j (h : j < s.size), j < k → 97 ≤ s[j].toNat ∧ s[j].toNat ≤ 122
open Classical in
/-- A name: one to ten small letters. -/
noncomputable def isNameB (s : ByteArray) : Bool := decide (AllLow s s.size) && inR s.size 1 10
theorem AllLow.zero (s : ByteArray) : AllLow s 0 := fun _ _ h => by omega
theorem AllLow.succ {s : ByteArray} {k : Nat} (h : AllLow s k) (hk : k < s.size) (h1 : 97 ≤ s[k].toNat) (h2 : s[k].toNat ≤ 122) : AllLow s (k + 1) := fun j hj hl => by
  by_cases e : j = k
  · subst e; exact ⟨h1, h2⟩
  · exact h j hj (by omega)
theorem isNameB_bad {s : ByteArray} {k : Nat} (hk : k < s.size) (h : s[k].toNat < 97 ∨ 122 < s[k].toNat) : isNameB s = false := by
  have : ¬ AllLow s s.size := fun g => by have := g k hk hk; omega
  simp [isNameB, this]
theorem isNameB_all {s : ByteArray} (h : AllLow s s.size) : isNameB s = inR s.size 1 10 := by simp [isNameB, h]

/-- The check number behind the bytes. -/
def ckOf (n : Int) (l : List UInt8) : Int := l.foldl (fun n c => (4099 * n + c.toNat + 1) % 999983) n
theorem ckOf_snoc (n : Int) (l : List UInt8) (c : UInt8) : ckOf n (l ++ [c]) = (4099 * ckOf n l + c.toNat + 1) % 999983 := by simp [ckOf]
theorem ckOf_bd {n : Int} (h0 : 0 ≤ n) (h1 : n ≤ 999982) (l : List UInt8) : 0 ≤ ckOf n l ∧ ckOf n l ≤ 999982 := by
  induction l generalizing n with
  | nil => exact ⟨h0, h1⟩
  | cons c l ih => exact ih (n := (4099 * n + c.toNat + 1) % 999983) (by omega) (by omega)
theorem ckOf_append (n : Int) (l l' : List UInt8) : ckOf n (l ++ l') = ckOf (ckOf n l) l' := by simp [ckOf]
theorem take_snoc (s : ByteArray) (k : Nat) (h : k < s.size) : s.data.toList.take (k + 1) = s.data.toList.take k ++ [s[k]] := by
  rw [List.take_succ_eq_append_getElem (by simpa using h)]; rfl
theorem take_all (s : ByteArray) : s.data.toList.take s.size = s.data.toList := List.take_of_length_le (by simp)

theorem checkOf_any (n : Int) (s : ByteArray) (w : World) (h0 : 0 ≤ n) (h1 : n ≤ 999982) (hs : s.size ≤ maxLen) :
    Calls Try.prog 73 #[.int .i64 n, .string s] w fun e w' => e = .returned (.int .i64 (ckOf n s.data.toList)) ∧ w = w' := by
  unfold maxLen at hs
  go_enter Try.func73, Try.ntmps73
  go_wp2
  go_loop [0, 5, 8] (fun c _ i => ∃ k : Nat, k ≤ s.size ∧ i = .int .i64 k ∧ c = .int .i64 (ckOf n (s.data.toList.take k))) (fun _ _ i => s.size - (intOf i).toNat)
  case atStart => exact ⟨0, Nat.zero_le _, rfl, rfl⟩
  case round =>
    obtain ⟨k, hk, rfl, rfl⟩ := hrel
    have hb := ckOf_bd h0 h1 (s.data.toList.take k)
    by_cases hlt : k < s.size
    · have hc : s[k].toNat < 256 := s[k].toNat_lt
      have HS := Lib.hid (ckOf_snoc n (s.data.toList.take k) s[k])
      have HT := Lib.hid (take_snoc s k hlt)
      go_wp2
      go_round
      case rel => exact ⟨k + 1, by omega, by go_num, by rw [HT.out, HS.out]⟩
      case measure => simp [intOf]; omega
    · have hke : k = s.size := by omega
      subst hke
      go_wp2
      go_ret
      exact ⟨ret_i64 (by rw [take_all]), rfl⟩
/-- CheckOf's two results. -/
def ckN (n : Int) (l : List UInt8) : Int := if inR n 0 999982 = true then ckOf n l else 0
theorem CheckOf_any (n : Int) (s : ByteArray) (w : World) (hs : s.size ≤ maxLen) :
    Calls Try.prog 44 #[.int .i64 n, .string s] w fun e w' => e = .returned (.tuple #[.int .i64 (ckN n s.data.toList), .bool (inR n 0 999982)]) ∧ w = w' := by
  cases h : inR n 0 999982 with
  | false =>
    have hk : ckN n s.data.toList = 0 := by simp [ckN, h]
    rw [hk]; clear hk
    go_enter Try.func44, Try.ntmps44
    go_wp2_with (go_at_call 49; refine (inRange_of h _).mono ?_; rintro e w' ⟨rfl, rfl⟩)
    go_ret2
    exact ⟨rfl, rfl⟩
  | true =>
    have hk : ckN n s.data.toList = ckOf n s.data.toList := by simp [ckN, h]
    rw [hk]; clear hk
    have hb := inR_true h
    go_enter Try.func44, Try.ntmps44
    go_wp2_with (first | (go_at_call 49; refine (inRange_of h _).mono ?_; rintro e w' ⟨rfl, rfl⟩) | (go_at_call 73; refine (checkOf_any n s _ hb.1 hb.2 hs).mono ?_; rintro e w' ⟨rfl, rfl⟩))
    go_ret2
    exact ⟨rfl, rfl⟩
end Go.Proofs.Ytifigkkghfjhpaa
