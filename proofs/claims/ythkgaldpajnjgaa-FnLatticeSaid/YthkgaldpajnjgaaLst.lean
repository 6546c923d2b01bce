/-
  Lists of int64 that calls hand back, and the laws' own comparison and marking of them. Conditions stand in each contract.
-/
import Derived.Test.YthkgaldpajnjgaaC1
import Derived.Test.YthkgaldpajnjgaaOwn
namespace Go.Proofs.Ythkgaldpajnjgaa
open Go.RowKit
set_option linter.unusedVariables false

theorem tI : SliceT Try.prog 29 2 .i64 8 := ⟨Try.underlying29, Try.underlying2, info_parts (by kernel_rfl)⟩

/-- In world w the slice at a is empty, or it is a row of its own, from block 'base' on, with the elements xs. -/
def HasL (base : Nat) (w : World) (a : Option Addr) (c : Nat) (xs : List Int) : Prop :=
  xs = [] ∨ ∃ g, a = some ⟨g, 0, none⟩ ∧ base ≤ g ∧ w.ownsRow g 2 1 (.slice a xs.length c) xs.length (xs.map (Value.int .i64))
/-- A call hands back such a list and a bool, and has turned nothing that was there. -/
def RetL (xs : List Int) (b : Bool) (w : World) (e : Ending) (w' : World) : Prop :=
  ∃ a c, e = .returned (.tuple #[.slice a xs.length c, .bool b]) ∧ HasL w.heap.size w' a c xs ∧ Below w.heap.size w w'
/-- The same without a bool. -/
def RetL1 (xs : List Int) (w : World) (e : Ending) (w' : World) : Prop :=
  ∃ a c, e = .returned (.slice a xs.length c) ∧ HasL w.heap.size w' a c xs ∧ Below w.heap.size w w'

theorem HasL.later {base : Nat} {w w' : World} {a : Option Addr} {c : Nat} {xs : List Int} (h : HasL base w a c xs) (hb : Below w.heap.size w w') : HasL base w' a c xs := by
  rcases h with h | ⟨g, h1, h2, h3⟩
  · exact .inl h
  · exact .inr ⟨g, h1, h2, h3.kept (row := none) ⟨hb.os, hb.tape, hb.output, hb.size, fun i hi _ => hb.block i hi⟩ (by cases hv : (Value.slice a xs.length c).ownBlock <;> simp)⟩
theorem HasL.mono {base base' : Nat} {w : World} {a : Option Addr} {c : Nat} {xs : List Int} (h : HasL base w a c xs) (hb : base' ≤ base) : HasL base' w a c xs := by
  rcases h with h | ⟨g, h1, h2, h3⟩
  · exact .inl h
  · exact .inr ⟨g, h1, by omega, h3⟩
theorem HasL.nil (base : Nat) (w : World) (a : Option Addr) (c : Nat) : HasL base w a c [] := .inl rfl
theorem OwnI.hasL {base : Nat} {W w : World} {v : Value} {xs : List Int} (h : OwnI .i64 base 2 W w v xs) : ∃ a c, v = .slice a xs.length c ∧ HasL base w a c xs := by
  obtain ⟨g, cap, rfl⟩ := h.2.2.2
  have hlt := h.1.lt g rfl
  refine ⟨_, _, rfl, .inr ⟨g, rfl, hlt.1, h.1.1, ?_⟩⟩
  rcases h.1.2 with ⟨h', _⟩ | ⟨g', cap', cur, h', r⟩
  · simp at h'
  · simp only [Value.slice.injEq, Option.some.injEq, Addr.mk.injEq, and_true, true_and] at h'
    obtain ⟨rfl, rfl⟩ := h'
    exact .inr ⟨g, cap, cur, rfl, Nat.le_refl _, r.2⟩
/-- What is there where the list isn't empty. -/
theorem HasL.open {base : Nat} {w : World} {a : Option Addr} {c : Nat} {xs : List Int} (h : HasL base w a c xs) (hx : 0 < xs.length) :
    ∃ g, a = some ⟨g, 0, none⟩ ∧ base ≤ g ∧ g < w.heap.size ∧ OwnI .i64 g 2 w w (.slice (some ⟨g, 0, none⟩) xs.length c) xs := by
  rcases h with h | ⟨g, rfl, h2, h3⟩
  · subst h; simp at hx
  · have hlt := h3.lt g rfl
    exact ⟨g, rfl, h2, hlt.2, h3, Below.refl _ _, by omega, g, c, rfl⟩
theorem HasL.cells {base : Nat} {w : World} {a : Option Addr} {c : Nat} {xs : List Int} (h : HasL base w a c xs) (hx : 0 < xs.length) :
    ∃ g, a = some ⟨g, 0, none⟩ ∧ base ≤ g ∧ g < w.heap.size ∧ (∀ j, j < xs.length → w.cell? ⟨g, j, none⟩ = some (.int .i64 (xs.getD j 0))) ∧ ∀ j, w.frozen? ⟨g, j, none⟩ = false := by
  obtain ⟨g, rfl, h2, h3, h4⟩ := h.open hx
  obtain ⟨g', cap, hv, _, _, _, _, h5, h6⟩ := h4.cell
  simp only [Value.slice.injEq, Option.some.injEq, Addr.mk.injEq, and_true, true_and] at hv
  obtain ⟨rfl, rfl⟩ := hv
  exact ⟨g, rfl, h2, h3, h5, h6⟩

/-- The elements count up from k. -/
def Marked (k : Int) (ys : List Int) : Prop := ∀ j, j < ys.length → ys.getD j 0 = k + j
end Go.Proofs.Ythkgaldpajnjgaa
