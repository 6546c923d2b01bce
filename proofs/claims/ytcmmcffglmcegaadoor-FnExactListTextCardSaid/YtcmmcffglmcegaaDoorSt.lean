/-
  A slice of strings that a call has made itself: what it holds, how it grows by append. Over any program; conditions stand in each lemma.
-/
import Derived.Test.YtcmmcffglmcegaaDoorOwn
namespace Go.Proofs.YtcmmcffglmcegaaDoor
open Go.RowKit
set_option linter.unusedVariables false

/-- t is a slice type over e, a string type. -/
structure SliceS (P : Program) (t e : TypeId) : Prop where
  under : P.underlying t = some (.slice e)
  info : ∃ i, P.info? e = some i ∧ i.zero = some (.string ⟨#[]⟩) ∧ i.size = 1 ∧ i.bytes = 16
/-- In world w the value v is a slice (not nil) of the call's own, its elements ss; below block 'base' nothing has turned since W. -/
def OwnS (base e : Nat) (W w : World) (v : Value) (ss : List ByteArray) : Prop :=
  w.ownsRow base e 1 v ss.length (ss.map Value.string) ∧ Below base W w ∧ base ≤ w.heap.size ∧ ∃ g cap, v = .slice (some ⟨g, 0, none⟩) ss.length cap
theorem OwnS.below {base e : Nat} {W w : World} {v : Value} {ss : List ByteArray} (h : OwnS base e W w v ss) : Below base W w := h.2.1
theorem OwnS.later {base e : Nat} {W w w' : World} {v : Value} {ss : List ByteArray} (h : OwnS base e W w v ss) (hb : Below w.heap.size w w') : OwnS base e W w' v ss :=
  ⟨h.1.kept (row := none) ⟨hb.os, hb.tape, hb.output, hb.size, fun i hi _ => hb.block i hi⟩ (by cases hv : v.ownBlock <;> simp), h.2.1.trans (hb.mono h.2.2.1), Nat.le_trans h.2.2.1 hb.size, h.2.2.2⟩
theorem OwnS.made {base e : Nat} {W w : World} (hb : Below base W w) (hB : base ≤ w.heap.size) : OwnS base e W (w.alloc (.cells #[] e)) (.slice (some ⟨w.heap.size, 0, none⟩) 0 0) [] :=
  ⟨World.ownsRow_lit (base := base) (e := e) (size := 1) w #[] 0 hB (Nat.zero_le _) rfl, hb.alloc hB _, by simp; omega, _, _, rfl⟩
theorem OwnS.cell {base e : Nat} {W w : World} {v : Value} {ss : List ByteArray} (h : OwnS base e W w v ss) : ∃ g cap, v = .slice (some ⟨g, 0, none⟩) ss.length cap ∧ base ≤ g ∧ g < w.heap.size ∧ ss.length ≤ cap ∧ cap ≤ maxLen ∧
    (∀ (j : Nat) s, ss[j]? = some s → w.cell? ⟨g, j, none⟩ = some (.string s)) ∧ ∀ j, w.frozen? ⟨g, j, none⟩ = false := by
  obtain ⟨g, cap, rfl⟩ := h.2.2.2
  have h1 := h.1
  have hlt := h1.lt g rfl
  refine ⟨g, cap, rfl, hlt.1, hlt.2, ?_, ?_, fun j s hj => ?_, fun j => h1.frozenAt j⟩
  · rcases h1.2 with ⟨h', _⟩ | ⟨g', cap', cur, h', _, _, hn, hm, _⟩
    · simp at h'
    · simp only [Value.slice.injEq] at h'; omega
  · rcases h1.2 with ⟨h', _⟩ | ⟨g', cap', cur, h', _, _, hn, hm, _⟩
    · simp at h'
    · simp only [Value.slice.injEq] at h'; omega
  · have hl : j < ss.length := by
      rcases Nat.lt_or_ge j ss.length with h' | h'
      · exact h'
      · rw [List.getElem?_eq_none h'] at hj; simp at hj
    rw [h1.cellAt j (by omega)]
    simp [hj]
/-- 'append(v, s)'. -/
theorem wpAppS {P : Program} {t e : TypeId} (T : SliceS P t e) {ops : Array Oper} {rest : List Oper} {o : Oper} {a : Act} {Q : Exit → Act → World → Prop} (hgd : o.guard = none) (s x : Operand)
    (ho : o.op = .call { callee := .builtin .append, args := #[s, x], argTypes := #[t, t] })
    {base : Nat} {W wr : World} {v : Value} {ss : List ByteArray} {z : ByteArray} {e' : TypeId} (hs : a.eval s = v) (hown : OwnS base e W wr v ss)
    (hx : a.eval x = .slice (some ⟨wr.heap.size, 0, none⟩) 1 1) (hn : ss.length < 1000000000000)
    (h : ∀ v' w', OwnS base e W w' v' (ss ++ [z]) → wpList P ops Q rest (a.put o.dst v') w') : wpList P ops Q (o :: rest) a (wr.alloc (.cells #[.string z] e')) := by
  obtain ⟨i, hi, hz0, hz1, hz2⟩ := T.info
  have h1 := (hown.later (bw_alloc (bw_refl _) (.cells #[.string z] e'))).1
  refine wpList_append_own _ hgd s x t ho base e i (.string ⟨#[]⟩) 1 16 T.under hi hz0 hz1 hz2 rfl (by decide) v _ _ hs h1 ⟨wr.heap.size, 0, none⟩ 1 1 [.string z] hx rfl ?_ ?_ ?_ ?_ ?_ ?_
  · intro j u hj
    match j, hj with
    | 0, hj =>
      simp at hj; subst hj
      show (wr.alloc (.cells #[.string z] e')).cell? ⟨wr.heap.size, 0, none⟩ = _
      rw [cell_of_row _ _ _ _ _ _ (heap_alloc_new wr _)]; rfl
    | j + 1, hj => simp at hj
  · intro u hu; simp at hu; subst hu; rfl
  · unfold maxLen; omega
  · omega
  · have := hown.2.2.1; simp; omega
  · intro v' w' hown' hgrow hnil
    refine h v' w' ⟨by simpa using hown', ?_, ?_, ?_⟩
    · exact (hown.2.1.alloc hown.2.2.1 _).grown hgrow (by have := hown.2.2.1; simp; omega) fun k' hk' => (h1.lt k' hk').1
    · have h2 := hgrow.size; have h3 := hown.2.2.1; simp at h2; omega
    · rcases hown'.2 with ⟨h', _⟩ | ⟨g', cap', cur, h', _⟩
      · obtain ⟨g, cap, hv⟩ := hown.2.2.2
        have := (hnil.1 h').1
        rw [hv] at this; simp at this
      · exact ⟨g', cap', by simpa using h'⟩
end Go.Proofs.YtcmmcffglmcegaaDoor
