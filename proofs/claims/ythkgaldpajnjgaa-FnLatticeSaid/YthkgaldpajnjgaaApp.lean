/-
  append of one slice of integers to another one that is the call's own. Over any program; conditions stand in the lemma.
-/
import Derived.Test.YthkgaldpajnjgaaLst
import Derived.Test.YthkgaldpajnjgaaReg
namespace Go.Proofs.Ythkgaldpajnjgaa
open Go.RowKit
set_option linter.unusedVariables false

/-- 'append(v, ys...)'. -/
theorem wpAppAll {P : Program} {t e : TypeId} {k : IntKind} {bytes : Nat} (T : SliceT P t e k bytes) {ops : Array Oper} {rest : List Oper} {o : Oper} {a : Act} {Q : Exit → Act → World → Prop} (hgd : o.guard = none) (s x : Operand)
    (ho : o.op = .call { callee := .builtin .append, args := #[s, x], argTypes := #[t, t] })
    {base : Nat} {W wr : World} {v : Value} {xs ys : List Int} {g off c : Nat} (hs : a.eval s = v) (hown : OwnI k base e W wr v xs)
    (hx : a.eval x = .slice (some ⟨g, off, none⟩) ys.length c) (hc : ∀ j, j < ys.length → wr.cell? ⟨g, off + j, none⟩ = some (.int k (ys.getD j 0))) (hb : bytes ≤ 8) (hn : xs.length + ys.length < 1000000000000)
    (h : ∀ v' w', OwnI k base e W w' v' (xs ++ ys) → wpList P ops Q rest (a.put o.dst v') w') : wpList P ops Q (o :: rest) a wr := by
  obtain ⟨i, hi, hz0, hz1, hz2⟩ := T.info
  have h1 := hown.1
  refine wpList_append_own _ hgd s x t ho base e i (.int k 0) 1 bytes T.under hi hz0 hz1 hz2 rfl (by decide) v _ _ hs h1 ⟨g, off, none⟩ ys.length c (ys.map (Value.int k)) hx (by simp) ?_ ?_ ?_ ?_ ?_ ?_
  · intro j u hj
    rw [List.getElem?_map] at hj
    have hjl : j < ys.length := by
      apply Nat.lt_of_not_le
      intro q
      rw [List.getElem?_eq_none q] at hj; cases hj
    have e1 : (⟨g, off, none⟩ : Addr).add j = ⟨g, off + j, none⟩ := by unfold Addr.add; split <;> simp_all
    rw [e1, hc j hjl]
    rw [List.getElem?_eq_getElem hjl] at hj
    simp only [Option.map_some] at hj
    rw [← hj]
    simp [List.getD, hjl]
  · intro u hu
    obtain ⟨z, _, rfl⟩ := List.mem_map.1 hu
    rfl
  · unfold maxLen; omega
  · have : (xs.length + ys.length) * bytes ≤ 1000000000000 * 8 := Nat.mul_le_mul (by omega) hb
    omega
  · exact hown.2.2.1
  · intro v' w' hown' hgrow hnil
    refine h v' w' ⟨by simpa using hown', ?_, ?_, ?_⟩
    · exact hown.2.1.grown hgrow hown.2.2.1 fun k' hk' => (h1.lt k' hk').1
    · have h2 := hgrow.size; have h3 := hown.2.2.1; omega
    · rcases hown'.2 with ⟨h', _⟩ | ⟨g', cap', cur, h', _⟩
      · obtain ⟨g2, cap, hv⟩ := hown.2.2.2
        have := (hnil.1 h').1
        rw [hv] at this; simp at this
      · exact ⟨g', cap', by simpa using h'⟩
end Go.Proofs.Ythkgaldpajnjgaa
