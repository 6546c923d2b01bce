/-
  Contract of slices.Sort at a list of the call's own. Condition: the list's length.
-/
import Derived.Test.YtdnikkmioighkaaDoorT3
import Derived.Test.YtdnikkmioighkaaDoorSrt
import Derived.Sort.OwnSortedInts
namespace Go.Proofs.YtdnikkmioighkaaDoor
open Go.RowKit
set_option linter.unusedVariables false

theorem nl_sorted (out : List Nat) : ∃ L : List Nat, (nl out).mergeSort (fun x y => decide (x ≤ y)) = nl L ∧ L.Pairwise (· ≤ ·) ∧ L.Perm out := by
  refine ⟨out.mergeSort (fun x y => decide (x ≤ y)), ?_, ?_, List.mergeSort_perm _ _⟩
  · unfold nl
    rw [List.map_mergeSort]
    intro a _ b _
    simp
  · have := List.pairwise_mergeSort (le := fun x y : Nat => decide (x ≤ y)) (fun a b c h1 h2 => by simp at *; omega) (fun a b => by simp; omega) out
    exact this.imp (fun h => by simpa using h)
theorem Sort_any (xs : List Int) (v : Value) (base : Nat) (W w : World) (h : OwnI .i64 base 2 W w v xs) (hx : xs.length < 1000000) :
    Calls Tryd.prog 21 #[v] w fun e w' => e = .returned (.tuple #[]) ∧ OwnI .i64 base 2 W w' v (xs.mergeSort (fun x y => decide (x ≤ y))) ∧ w.grownBy w' v.ownBlock := by
  rcases h.1.2 with ⟨h', _⟩ | ⟨g, cap, cur, hv, hg, hb, hn, hm, hs, ht⟩
  · obtain ⟨g, cap, hv⟩ := h.2.2.2
    rw [hv] at h'; simp at h'
  · subst hv
    have hH := holds_of_blockI hb (by simpa using ht)
    have hlt : g < w.heap.size := (Array.getElem?_eq_some_iff.1 hb).1
    refine (AnyM.slices_Sort_int Tryd.laysSort g 0 cap xs w hH hlt (by omega)).mono ?_
    rintro e w' ⟨he, n, os, rfl⟩
    have hgrow := grownBy_sortedI (w := w) (g := g) (n := n) (os := os) (xs.mergeSort fun x y => decide (x ≤ y)).toArray
    have hl : (xs.mergeSort fun x y => decide (x ≤ y)).length = xs.length := List.length_mergeSort _
    refine ⟨he, ⟨?_, h.2.1.grown hgrow h.2.2.1 (fun k hk => by cases hk; exact hg), Nat.le_trans h.2.2.1 hgrow.size, g, cap, by rw [hl]⟩, hgrow⟩
    rw [hl]
    exact ownsRow_sortedI hl hg hb hn hm hs
end Go.Proofs.YtdnikkmioighkaaDoor
