/-
  append inside a region that draws its order, to a slice of integers of the call's own. Over any program; conditions stand in the lemma.
-/
import Derived.Test.YthkgaldpajnjgaaOwn
import Derived.Deep.AppendLies
import Derived.Deep.RegionLaw
namespace Go.Proofs.Ythkgaldpajnjgaa
open Go.RowKit
set_option linter.unusedVariables false

theorem stepApp {P : Program} {t e : TypeId} {k : IntKind} {bytes : Nat} (T : SliceT P t e k bytes) {ops : Array Oper} {o : Oper} {a : Act} {K : Act → World → Prop} {Q : Exit → Act → World → Prop} {E : Prop} (hgd : o.guard = none) (s x : Operand)
    (ho : o.op = .call { callee := .builtin .append, args := #[s, x], argTypes := #[t, t] })
    {base : Nat} {W wr : World} {v : Value} {xs : List Int} {z : Int} {e' : TypeId} (hs : a.eval s = v) (hown : OwnI k base e W wr v xs)
    (hx : a.eval x = .slice (some ⟨wr.heap.size, 0, none⟩) 1 1) (hb : bytes ≤ 8) (hn : xs.length < 1000000000000)
    (h : ∀ v' w', OwnI k base e W w' v' (xs ++ [z]) → K (a.put o.dst v') w') :
    if Region.wanted o (yielded ops a.tmps) = true then Oper.wp P o a (wr.alloc (.cells #[.int k z] e')) K Q else E := by
  obtain ⟨i, hi, hz0, hz1, hz2⟩ := T.info
  have h1 := hown.1.alloc (.cells #[.int k z] e')
  refine step_append_lies (P := P) _ hgd s x t ho base e i (.int k 0) 1 bytes T.under hi hz0 hz1 hz2 rfl (by decide) v _ _ hs h1 ⟨wr.heap.size, 0, none⟩ 1 1 [.int k z] hx rfl ?_ ?_ (by decide) ?_ ?_ ?_ _ rfl ?_
  · exact World.news_of_block (cs := #[.int k z]) (t := e') (heap_alloc_new wr _)
  · intro u hu; simp at hu; subst hu; rfl
  · unfold maxLen; omega
  · have : (xs.length + 1) * bytes ≤ 1000000000000 * 8 := Nat.mul_le_mul (by omega) hb
    omega
  · have := hown.2.2.1; simp; omega
  · intro g cap w' hown' hgrow hat hlt
    refine h _ w' ⟨by simpa using hown', ?_, ?_, g, cap, by simp⟩
    · exact (hown.2.1.alloc hown.2.2.1 _).grown hgrow (by have := hown.2.2.1; simp; omega) fun k' hk' => (h1.lt k' hk').1
    · have h2 := hgrow.size; have h3 := hown.2.2.1; simp at h2; omega
/-- 'append(v, z)' at a plain region, the new slice written out. -/
theorem wpApp1 {P : Program} {t e : TypeId} {k : IntKind} {bytes : Nat} (T : SliceT P t e k bytes) {ops : Array Oper} {rest : List Oper} {o : Oper} {a : Act} {Q : Exit → Act → World → Prop} (hgd : o.guard = none) (s x : Operand)
    (ho : o.op = .call { callee := .builtin .append, args := #[s, x], argTypes := #[t, t] })
    {base : Nat} {W wr : World} {v : Value} {xs : List Int} {z : Int} {e' : TypeId} (hs : a.eval s = v) (hown : OwnI k base e W wr v xs)
    (hx : a.eval x = .slice (some ⟨wr.heap.size, 0, none⟩) 1 1) (hb : bytes ≤ 8) (hn : xs.length < 1000000000000) (n : Nat) (hn1 : xs.length + 1 = n)
    (h : ∀ g cap w', OwnI k base e W w' (.slice (some ⟨g, 0, none⟩) n cap) (xs ++ [z]) → wpList P ops Q rest (a.put o.dst (.slice (some ⟨g, 0, none⟩) n cap)) w') : wpList P ops Q (o :: rest) a (wr.alloc (.cells #[.int k z] e')) :=
  wpApp T hgd s x ho hs hown hx hb hn fun v' w' hv => by
    obtain ⟨g, cap, rfl, _⟩ := hv.cell
    have e : (xs ++ [z]).length = n := by rw [List.length_append]; exact hn1
    rw [e] at hv ⊢
    exact h g cap w' hv
end Go.Proofs.Ythkgaldpajnjgaa
