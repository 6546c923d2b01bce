/-
  Reading a number's text: the reference's l01Great, l01Value and ReadDecimal. Condition: the text is not longer than the laws let it be.
-/
import Derived.Test.YthkmhpkoanmbkaaDoorM12
import Derived.Test.YthkmhpkoanmbkaaDoorM10
import Derived.Test.YthkmhpkoanmbkaaDoorC1
import Derived.Lib.IndexBytes
namespace Go.Proofs.YthkmhpkoanmbkaaDoor
open Go.RowKit
set_option linter.unusedVariables false

/-- What is read of a text: all of it, or all but the sign. -/
def RestOf (s R : ByteArray) (neg : Bool) : Prop := ∀ M n, NumT M s n → R.data.toList = Lib.decDigits n.natAbs ∧ (n < 0 ↔ neg = true)
theorem rest_plain {s : ByteArray} (h : ∀ h0 : 0 < s.size, s[0].toNat ≠ 45) : RestOf s s false := fun M n ⟨_, _, hn⟩ => by
  have hl : s.data.toList = Lib.itoa n := by rw [hn, decS_list]
  have hnn : ¬ n < 0 := fun hneg => by
    have e : s.data.toList = 45 :: Lib.decDigits n.natAbs := by rw [hl, Lib.itoa, if_pos hneg]
    have hs : 0 < s.size := by
      have := congrArg List.length e
      simp at this; omega
    have h0 := at_data s 0 hs
    rw [e] at h0
    simp only [List.getElem?_cons_zero, Option.some.injEq] at h0
    exact h hs (by rw [← h0]; rfl)
  refine ⟨?_, by simp [hnn]⟩
  rw [hl, Lib.itoa, if_neg hnn]
  congr 1
  omega
theorem rest_sign {s R : ByteArray} (h0 : 0 < s.size) (h : s[0].toNat = 45) (hR : R.data.toList = s.data.toList.drop 1) : RestOf s R true := fun M n ⟨_, _, hn⟩ => by
  have hl : s.data.toList = Lib.itoa n := by rw [hn, decS_list]
  have hneg : n < 0 := by
    by_cases hh : n < 0
    · exact hh
    · exfalso
      obtain ⟨c, r, hc, hd⟩ := dd_cons n.toNat
      have e : s.data.toList = c :: r := by rw [hl, Lib.itoa, if_neg hh, hc]
      have h1 := at_data s 0 h0
      rw [e] at h1
      simp only [List.getElem?_cons_zero, Option.some.injEq] at h1
      unfold IsDig at hd
      rw [h1] at hd
      omega
  refine ⟨?_, by simp [hneg]⟩
  rw [hR, hl, Lib.itoa, if_pos hneg]
  rfl

theorem toList_inj {a b : ByteArray} (h : a.toList = b.toList) : a = b := by
  rw [Lib.toList_data, Lib.toList_data] at h
  have h2 : a.data = b.data := Array.toList_inj.1 h
  cases a; cases b; simp_all
/-- What l01Great hands back: a number that counts where the text is one. -/
def GreatR (b1 : Bool) (v1 : Int) (w : World) (e : Ending) (w' : World) : Prop :=
  ∃ v b, e = .returned (.tuple #[.int .i64 v, .bool b]) ∧ (b = b1 ∧ (b = true → v = v1)) ∧ Below w.heap.size w w'
end Go.Proofs.YthkmhpkoanmbkaaDoor
