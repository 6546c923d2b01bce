/-
  Contract of the reference's TableCycles. Condition: the text's length.
-/
import Derived.Test.YtdnikkmioighkaaDoorT1
import Derived.Test.YtdnikkmioighkaaDoorE2
namespace Go.Proofs.YtdnikkmioighkaaDoor
open Go.RowKit
set_option linter.unusedVariables false

/-- The lengths of the cycles, in order. -/
def IsTC (f : Nat → Nat) (n : Nat) (L : List Nat) : Prop := L.Pairwise (· ≤ ·) ∧ ∃ out, SpecL f n n out ∧ L.Perm out
theorem specL_perm {f : Nat → Nat} {n s : Nat} {o o' : List Nat} (h : SpecL f n s o) (h' : SpecL f n s o') : o.Perm o' := by
  obtain ⟨r, r1, r2, rfl⟩ := h
  obtain ⟨r', s1, s2, rfl⟩ := h'
  exact List.Perm.map _ ((List.perm_ext_iff_of_nodup r1 s1).2 fun m => by rw [r2, s2])
theorem IsTC.unique {f : Nat → Nat} {n : Nat} {L L' : List Nat} (h : IsTC f n L) (h' : IsTC f n L') : L = L' := by
  obtain ⟨h1, o, h2, h3⟩ := h
  obtain ⟨k1, o', k2, k3⟩ := h'
  exact sorted_same ((h3.trans (specL_perm h2 k2)).trans k3.symm) h1 k1
open Classical in
/-- TableCycles' list. -/
noncomputable def tcL (wd : Int) (s : ByteArray) : List Nat := if h : tcB wd s = true ∧ ∃ L, IsTC (tf s wd.toNat) s.size L then Classical.choose h.2 else []
theorem tcL_no {wd : Int} {s : ByteArray} (h : tcB wd s = false) : tcL wd s = [] := by
  unfold tcL
  rw [dif_neg (fun c => by rw [h] at c; cases c.1)]
theorem tcL_yes {W : Nat} {s : ByteArray} {L : List Nat} (h : tcB W s = true) (hL : IsTC (tf s W) s.size L) : tcL W s = L := by
  have hc : tcB W s = true ∧ ∃ L, IsTC (tf s (W : Int).toNat) s.size L := ⟨h, L, by rwa [Int.toNat_natCast]⟩
  unfold tcL
  rw [dif_pos hc]
  have hL' : IsTC (tf s (W : Int).toNat) s.size L := by rwa [Int.toNat_natCast]
  exact (Classical.choose_spec hc.2).unique hL'
end Go.Proofs.YtdnikkmioighkaaDoor
