/-
  Lists of int64 in bounds of blocks, and the marking that changes only such a block. Conditions stand in each contract.
-/
import Derived.Test.YthkgaldpajnjgaaLst
namespace Go.Proofs.Ythkgaldpajnjgaa
open Go.RowKit
set_option linter.unusedVariables false

/-- As HasL, the row's block between lo and hi. -/
def HasIn (lo hi : Nat) (w : World) (a : Option Addr) (c : Nat) (xs : List Int) : Prop :=
  xs = [] ∨ ∃ g, a = some ⟨g, 0, none⟩ ∧ lo ≤ g ∧ g < hi ∧ w.ownsRow g 2 1 (.slice a xs.length c) xs.length (xs.map (Value.int .i64))
/-- Only blocks between lo and hi may differ, and new ones may be there. -/
structure FarI (lo hi : Nat) (w w' : World) : Prop where
  os : w'.os = w.os
  tape : w'.tape = w.tape
  output : w'.output = w.output
  size : w.heap.size ≤ w'.heap.size
  block : ∀ k, k < w.heap.size → ¬ (lo ≤ k ∧ k < hi) → w'.heap[k]? = w.heap[k]?

theorem row_kept {w w' : World} {base e n c g : Nat} {xs : List Value} (h : w.ownsRow base e 1 (.slice (some ⟨g, 0, none⟩) n c) n xs) (hb : w'.heap[g]? = w.heap[g]?) : w'.ownsRow base e 1 (.slice (some ⟨g, 0, none⟩) n c) n xs := by
  refine ⟨h.1, ?_⟩
  rcases h.2 with hn | ⟨g', cap, cur, hv, hlo, hgg, rest⟩
  · exact .inl hn
  · refine .inr ⟨g', cap, cur, hv, hlo, ?_, rest⟩
    simp only [Value.slice.injEq, Option.some.injEq, Addr.mk.injEq, and_true] at hv
    obtain ⟨rfl, _⟩ := hv
    rw [hb]; exact hgg
theorem HasL.toIn {base : Nat} {w : World} {a : Option Addr} {c : Nat} {xs : List Int} (h : HasL base w a c xs) : HasIn base w.heap.size w a c xs := by
  rcases h with h | ⟨g, rfl, h2, h3⟩
  · exact .inl h
  · exact .inr ⟨g, rfl, h2, (h3.lt g rfl).2, h3⟩
theorem HasIn.toL {lo hi : Nat} {w : World} {a : Option Addr} {c : Nat} {xs : List Int} (h : HasIn lo hi w a c xs) : HasL lo w a c xs := by
  rcases h with h | ⟨g, h1, h2, h3, h4⟩
  · exact .inl h
  · exact .inr ⟨g, h1, h2, h4⟩
theorem HasIn.nil (lo hi : Nat) (w : World) (a : Option Addr) (c : Nat) : HasIn lo hi w a c [] := .inl rfl
theorem HasIn.under {lo hi B : Nat} {w w' : World} {a : Option Addr} {c : Nat} {xs : List Int} (h : HasIn lo hi w a c xs) (hb : Below B w w') (hB : hi ≤ B) : HasIn lo hi w' a c xs := by
  rcases h with h | ⟨g, rfl, h2, h3, h4⟩
  · exact .inl h
  · exact .inr ⟨g, rfl, h2, h3, row_kept h4 (hb.block g (by omega))⟩
theorem HasIn.far {lo hi lo' hi' : Nat} {w w' : World} {a : Option Addr} {c : Nat} {xs : List Int} (h : HasIn lo hi w a c xs) (hb : FarI lo' hi' w w') (hB : hi ≤ lo' ∨ hi' ≤ lo) : HasIn lo hi w' a c xs := by
  rcases h with h | ⟨g, rfl, h2, h3, h4⟩
  · exact .inl h
  · exact .inr ⟨g, rfl, h2, h3, row_kept h4 (hb.block g (h4.lt g rfl).2 (by omega))⟩
theorem HasIn.drewN {lo hi : Nat} {w : World} {a : Option Addr} {c : Nat} {xs : List Int} (h : HasIn lo hi w a c xs) (n : Nat) : HasIn lo hi (w.drewN n) a c xs := h.under (B := hi) ⟨rfl, rfl, rfl, Nat.le_refl _, fun _ _ => rfl⟩ (Nat.le_refl _)
theorem FarI.below {lo hi B : Nat} {w w' : World} (h : FarI lo hi w w') (hB : B ≤ lo) (hw : B ≤ w.heap.size) : Below B w w' := ⟨h.os, h.tape, h.output, h.size, fun k hk => h.block k (by omega) (by omega)⟩
end Go.Proofs.Ythkgaldpajnjgaa
