/-
  Plain laws of numbers' texts: reading back what was written. No condition; no Go program here.
-/
import Derived.Test.YthkmhpkoanmbkaaDoorDc
import Derived.Lib.ParseIntBCases
import Derived.Lib.ParseIntBTie
namespace Go.Proofs.YthkmhpkoanmbkaaDoor
open Go.RowKit
set_option linter.unusedVariables false

/-- The number that digits spell. -/
def valL (l : List UInt8) : Nat := l.foldl (fun a c => a * 10 + (c.toNat - 48)) 0
theorem valL_snoc (l : List UInt8) (c : UInt8) : valL (l ++ [c]) = valL l * 10 + (c.toNat - 48) := by simp [valL]
def IsDig (c : UInt8) : Prop := 48 ≤ c.toNat ∧ c.toNat ≤ 57
theorem dig_nat {a : Nat} (h : a < 10) : (UInt8.ofNat (48 + a)).toNat = 48 + a := by
  simp [UInt8.toNat_ofNat]; omega
theorem dd_small {m : Nat} (h : m < 10) : Lib.decDigits m = [UInt8.ofNat (48 + m)] := by rw [Lib.decDigits, dif_pos h]
theorem dd_big {m : Nat} (h : ¬ m < 10) : Lib.decDigits m = Lib.decDigits (m / 10) ++ [UInt8.ofNat (48 + m % 10)] := by rw [Lib.decDigits, dif_neg h]
theorem dd_dig (m : Nat) : ∀ c ∈ Lib.decDigits m, IsDig c := by
  induction m using Nat.strongRecOn with
  | _ m ih =>
    by_cases h : m < 10
    · rw [dd_small h]
      intro c hc
      simp only [List.mem_singleton] at hc
      subst hc
      unfold IsDig
      rw [dig_nat h]; omega
    · rw [dd_big h]
      intro c hc
      rcases List.mem_append.1 hc with h' | h'
      · exact ih _ (by omega) c h'
      · simp only [List.mem_singleton] at h'
        subst h'
        unfold IsDig
        rw [dig_nat (by omega)]; omega
theorem dd_val (m : Nat) : valL (Lib.decDigits m) = m := by
  induction m using Nat.strongRecOn with
  | _ m ih =>
    by_cases h : m < 10
    · rw [dd_small h]
      show 0 * 10 + ((UInt8.ofNat (48 + m)).toNat - 48) = m
      rw [dig_nat h]; omega
    · rw [dd_big h, valL_snoc, ih _ (by omega), dig_nat (by omega)]; omega
theorem dd_pos (m : Nat) : 1 ≤ (Lib.decDigits m).length := by
  rw [Lib.decDigits_length]; exact Lib.nDigits_pos m
theorem dd_len : ∀ (k m : Nat), m < 10 ^ (k + 1) → (Lib.decDigits m).length ≤ k + 1
  | 0, m, h => by rw [dd_small (by simpa using h)]; simp
  | k + 1, m, h => by
    by_cases h0 : m < 10
    · rw [dd_small h0]; simp
    · rw [dd_big h0, List.length_append]
      have := dd_len k (m / 10) (by rw [Nat.pow_succ] at h; omega)
      simp; omega
theorem dd_pre (m : Nat) : ∀ k, k < (Lib.decDigits m).length → valL ((Lib.decDigits m).take k) ≤ m / 10 := by
  induction m using Nat.strongRecOn with
  | _ m ih =>
    intro k hk
    by_cases h : m < 10
    · rw [dd_small h] at hk ⊢
      have : k = 0 := by simpa using hk
      subst this
      simp [valL]
    · rw [dd_big h] at hk ⊢
      rw [List.length_append, List.length_singleton] at hk
      by_cases hk2 : k = (Lib.decDigits (m / 10)).length
      · rw [hk2, List.take_left', dd_val]
        · omega
        · rfl
      · rw [List.take_append_of_le_length (by omega)]
        have := ih (m / 10) (by omega) k (by omega)
        omega
theorem dd_parse (M : Nat) (hM : M ≤ 18446744073709551615) (m : Nat) : ∀ r, m ≤ M → Lib.parseUintM M 0 (Lib.decDigits m ++ r) = Lib.parseUintM M m r := by
  induction m using Nat.strongRecOn with
  | _ m ih =>
    intro r hm
    by_cases h : m < 10
    · rw [dd_small h]
      show Lib.parseUintM M 0 (UInt8.ofNat (48 + m) :: r) = _
      rw [Lib.parseUintM, dig_nat h, if_pos (by omega), if_neg (by omega), if_neg (by omega)]
      congr 1
      omega
    · rw [dd_big h, List.append_assoc, ih (m / 10) (by omega) _ (by omega)]
      show Lib.parseUintM M (m / 10) (UInt8.ofNat (48 + m % 10) :: r) = _
      rw [Lib.parseUintM, dig_nat (by omega), if_pos (by omega), if_neg (by omega), if_neg (by omega)]
      congr 1
      omega
theorem dd_cons (m : Nat) : ∃ c r, Lib.decDigits m = c :: r ∧ IsDig c := by
  cases h : Lib.decDigits m with
  | nil => have := dd_pos m; rw [h] at this; simp at this
  | cons c r => exact ⟨c, r, rfl, dd_dig m c (by rw [h]; exact List.mem_cons_self)⟩
theorem parse_itoa {n : Int} (h0 : -9223372036854775808 ≤ n) (h1 : n ≤ 9223372036854775807) : Lib.parseIntB 64 (Lib.itoa n) = .ok n := by
  have hU : ∀ m : Nat, m ≤ 9223372036854775808 → Lib.parseUintB 64 (Lib.decDigits m) = .ok m := fun m hm => by
    obtain ⟨c, r, hc, _⟩ := dd_cons m
    have h := dd_parse (2 ^ 64 - 1) (by decide) m [] (by omega)
    rw [List.append_nil] at h
    unfold Lib.parseUintB
    rw [if_neg (by rw [hc]; simp), h]
    rfl
  unfold Lib.itoa
  split
  · rename_i hn
    have hu := hU n.natAbs (by omega)
    unfold Lib.parseIntB
    simp only [show (45 : UInt8).toNat = 45 from rfl]
    rw [if_pos (by right; trivial), hu]
    simp only
    rw [if_neg (by simp), if_neg (by simp; omega)]
    simp
    omega
  · rename_i hn
    have hu := hU n.toNat (by omega)
    obtain ⟨c, r, hc, hd⟩ := dd_cons n.toNat
    rw [hc] at hu ⊢
    unfold IsDig at hd
    unfold Lib.parseIntB
    simp only
    rw [if_neg (by omega), hu]
    simp only
    rw [if_neg (by simp; omega), if_neg (by omega), if_neg (by omega)]
    congr 1
    omega
theorem decS_inj {n m : Int} (n0 : -9223372036854775808 ≤ n) (n1 : n ≤ 9223372036854775807) (m0 : -9223372036854775808 ≤ m) (m1 : m ≤ 9223372036854775807) (h : decS n = decS m) : n = m := by
  have e : Lib.itoa n = Lib.itoa m := by
    have := congrArg (fun s : ByteArray => s.data.toList) h
    simpa [decS] using this
  have h1 := parse_itoa n0 n1
  rw [e, parse_itoa m0 m1] at h1
  injection h1 with h2
  exact h2.symm
theorem decS_list (n : Int) : (decS n).data.toList = Lib.itoa n := by simp [decS]
/-- A text is the text of a number from -M to M. -/
def NumT (M : Int) (s : ByteArray) (n : Int) : Prop := -M ≤ n ∧ n ≤ M ∧ s = decS n
open Classical in
/-- Whether a text is that of a number of at most M, and the number. -/
noncomputable def rdB (M : Int) (s : ByteArray) : Bool := decide (∃ n, NumT M s n)
open Classical in
noncomputable def rdV (M : Int) (s : ByteArray) : Int := if h : ∃ n, NumT M s n then h.choose else 0
theorem rd_some {M n : Int} {s : ByteArray} (hM : M ≤ 9223372036854775807) (h : NumT M s n) : rdB M s = true ∧ rdV M s = n := by
  have he : ∃ n, NumT M s n := ⟨n, h⟩
  refine ⟨by simp [rdB, he], ?_⟩
  rw [rdV, dif_pos he]
  have h2 := he.choose_spec
  obtain ⟨a1, a2, a3⟩ := h
  obtain ⟨b1, b2, b3⟩ := h2
  exact decS_inj (by omega) (by omega) (by omega) (by omega) (b3.symm.trans a3)
theorem rd_none {M : Int} {s : ByteArray} (h : ∀ n, ¬ NumT M s n) : rdB M s = false ∧ rdV M s = 0 := by
  have he : ¬ ∃ n, NumT M s n := fun ⟨n, hn⟩ => h n hn
  exact ⟨by simp [rdB, he], by rw [rdV, dif_neg he]⟩
end Go.Proofs.YthkmhpkoanmbkaaDoor
