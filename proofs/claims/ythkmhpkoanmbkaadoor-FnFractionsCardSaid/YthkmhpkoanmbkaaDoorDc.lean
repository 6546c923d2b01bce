/-
  Decimal: the reference's text of a number is the library's, for every int64. No condition; the program's goes by the shelf's contract of strconv.FormatInt, which asks the table of the powers of ten.
-/
import Derived.Test.YthkmhpkoanmbkaaDoorReg
import Derived.Lib.ItoaNum
import Derived.Lib.ItoaLen
namespace Go.Proofs.YthkmhpkoanmbkaaDoor
open Go.RowKit
set_option linter.unusedVariables false

theorem tBd : SliceT Tryd.prog 22 5 .u8 1 := ⟨Tryd.underlying22, Tryd.underlying5, info_parts (by kernel_rfl)⟩

/-- The decimal digits of a number, the least one first; none for 0. -/
def dl (m : Nat) : List Int := if h : m = 0 then [] else (48 + (m % 10 : Nat) : Int) :: dl (m / 10)
termination_by m
decreasing_by omega
theorem dl_zero : dl 0 = [] := by rw [dl]; simp
theorem dl_pos {m : Nat} (h : m ≠ 0) : dl m = (48 + (m % 10 : Nat) : Int) :: dl (m / 10) := by rw [dl, dif_neg h]
theorem dl_len : ∀ (k m : Nat), m < 10 ^ k → (dl m).length ≤ k
  | 0, m, h => by have : m = 0 := by simp at h; omega
                  subst this; simp [dl_zero]
  | k + 1, m, h => by
    by_cases h0 : m = 0
    · subst h0; simp [dl_zero]
    · rw [dl_pos h0, List.length_cons]
      have := dl_len k (m / 10) (by rw [Nat.pow_succ] at h; omega)
      omega
theorem toU8 (a : Nat) (h : a < 10) : UInt8.ofNat ((48 + (a : Int)).toNat) = UInt8.ofNat (48 + a) := by congr 1
theorem dl_rev (m : Nat) (h : m ≠ 0) : (dl m).reverse.map (fun n => UInt8.ofNat n.toNat) = Lib.decDigits m := by
  induction m using Nat.strongRecOn with
  | _ m ih =>
    rw [dl_pos h, List.reverse_cons, List.map_append, Lib.decDigits]
    by_cases h1 : m < 10
    · rw [dif_pos h1, show m / 10 = 0 by omega, dl_zero]
      simp only [List.reverse_nil, List.map_nil, List.nil_append, List.map_cons, List.cons.injEq, and_true]
      rw [toU8 _ (by omega), show m % 10 = m by omega]
    · rw [dif_neg h1, ih (m / 10) (by omega) (by omega)]
      simp only [List.map_cons, List.map_nil, List.append_cancel_left_eq, List.cons.injEq, and_true]
      rw [toU8 _ (by omega)]
/-- The text's numbers, backwards. -/
def dx (n : Int) : List Int := if n < 0 then dl n.natAbs ++ [45] else dl n.natAbs
theorem dx_text {n : Int} (h : n ≠ 0) : strOfNums (dx n).reverse = ⟨(Lib.itoa n).toArray⟩ := by
  unfold strOfNums
  congr 2
  unfold dx Lib.itoa
  split
  · rw [List.reverse_append, List.map_append, dl_rev _ (by omega)]
    rfl
  · rw [dl_rev _ (by omega)]
    congr 1
    omega
theorem dx_zero : (⟨#[48]⟩ : ByteArray) = ⟨(Lib.itoa 0).toArray⟩ := by
  have : Lib.itoa 0 = [48] := by
    unfold Lib.itoa
    rw [if_neg (by omega), Lib.decDigits_one (by decide)]
    rfl
  rw [this]
/-- Decimal's text. -/
def decS (n : Int) : ByteArray := ⟨(Lib.itoa n).toArray⟩
theorem decS_size (n : Int) (h0 : -9223372036854775808 ≤ n) (h1 : n ≤ 9223372036854775807) : (decS n).size ≤ 21 := by
  have := Lib.itoa_length_le n h0 h1
  show (decS n).data.size ≤ 21
  simpa [decS] using this

end Go.Proofs.YthkmhpkoanmbkaaDoor
