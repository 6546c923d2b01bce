/-
  A slice that a call has made itself, of whatever elements of one cell: what it holds, how it grows by append. Over any program; conditions stand in each lemma.
-/
import Derived.Test.YtdnikkmioighkaaDoorOwn
namespace Go.Proofs.YtdnikkmioighkaaDoor
open Go.RowKit
set_option linter.unusedVariables false

structure SliceV (P : Program) (t e : TypeId) (z : Value) (bytes : Nat) : Prop where
  under : P.underlying t = some (.slice e)
  info : ∃ i, P.info? e = some i ∧ i.zero = some z ∧ i.size = 1 ∧ i.bytes = bytes
def OwnV {α : Type} (enc : α → Value) (base e : Nat) (W w : World) (v : Value) (xs : List α) : Prop :=
  w.ownsRow base e 1 v xs.length (xs.map enc) ∧ Below base W w ∧ base ≤ w.heap.size ∧ ∃ g cap, v = .slice (some ⟨g, 0, none⟩) xs.length cap
theorem OwnV.below {α : Type} {enc : α → Value} {base e : Nat} {W w : World} {v : Value} {xs : List α} (h : OwnV enc base e W w v xs) : Below base W w := h.2.1
theorem OwnV.later {α : Type} {enc : α → Value} {base e : Nat} {W w w' : World} {v : Value} {xs : List α} (h : OwnV enc base e W w v xs) (hb : Below w.heap.size w w') : OwnV enc base e W w' v xs :=
  ⟨h.1.kept (row := none) ⟨hb.os, hb.tape, hb.output, hb.size, fun i hi _ => hb.block i hi⟩ (by cases hv : v.ownBlock <;> simp), h.2.1.trans (hb.mono h.2.2.1), Nat.le_trans h.2.2.1 hb.size, h.2.2.2⟩
theorem OwnV.made {α : Type} {enc : α → Value} {base e : Nat} {W w : World} (hb : Below base W w) (hB : base ≤ w.heap.size) : OwnV enc base e W (w.alloc (.cells #[] e)) (.slice (some ⟨w.heap.size, 0, none⟩) 0 0) [] :=
  ⟨World.ownsRow_lit (base := base) (e := e) (size := 1) w #[] 0 hB (Nat.zero_le _) rfl, hb.alloc hB _, by simp; omega, _, _, rfl⟩
theorem OwnV.cell {α : Type} {enc : α → Value} {base e : Nat} {W w : World} {v : Value} {xs : List α} (h : OwnV enc base e W w v xs) (d : α) : ∃ g cap, v = .slice (some ⟨g, 0, none⟩) xs.length cap ∧ base ≤ g ∧ g < w.heap.size ∧ xs.length ≤ cap ∧ cap ≤ maxLen ∧
    ∀ j, j < xs.length → w.cell? ⟨g, j, none⟩ = some (enc (xs.getD j d)) := by
  obtain ⟨g, cap, rfl⟩ := h.2.2.2
  have h1 := h.1
  have hlt := h1.lt g rfl
  refine ⟨g, cap, rfl, hlt.1, hlt.2, ?_, ?_, fun j hj => ?_⟩
  · rcases h1.2 with ⟨h', _⟩ | ⟨g', cap', cur, h', _, _, hn, hm, _⟩
    · simp at h'
    · simp only [Value.slice.injEq] at h'; omega
  · rcases h1.2 with ⟨h', _⟩ | ⟨g', cap', cur, h', _, _, hn, hm, _⟩
    · simp at h'
    · simp only [Value.slice.injEq] at h'; omega
  · rw [h1.cellAt j (by omega)]
    simp [List.getD, hj]
/-- The same, told from an earlier world on. -/
theorem OwnV.rebase {α : Type} {enc : α → Value} {base base' e : Nat} {W W' w : World} {v : Value} {xs : List α} (h : OwnV enc base e W w v xs) (hb : base' ≤ base) (hB : Below base' W' w) : OwnV enc base' e W' w v xs := by
  refine ⟨⟨h.1.1, ?_⟩, hB, Nat.le_trans hb h.2.2.1, h.2.2.2⟩
  rcases h.1.2 with q | ⟨g, cap, cur, h1, h2, r⟩
  · exact .inl q
  · exact .inr ⟨g, cap, cur, h1, Nat.le_trans hb h2, r⟩
/-- What an append leaves. -/
theorem OwnV.after {α : Type} {enc : α → Value} {base e : Nat} {W wr w0 w' : World} {v v' : Value} {xs ys : List α} (hown : OwnV enc base e W wr v xs) (h0 : Below wr.heap.size wr w0) (hown' : w'.ownsRow base e 1 v' (xs.length + ys.length) (xs.map enc ++ ys.map enc)) (hgrow : w0.grownBy w' v.ownBlock) (hnil : v' = .slice none 0 0 → v = .slice none 0 0) : OwnV enc base e W w' v' (xs ++ ys) := by
  have hs0 := h0.size
  refine ⟨by simpa using hown', ?_, ?_, ?_⟩
  · exact (hown.2.1.trans (h0.mono hown.2.2.1)).grown hgrow (Nat.le_trans hown.2.2.1 hs0) fun k' hk' => (hown.1.lt k' hk').1
  · exact Nat.le_trans (Nat.le_trans hown.2.2.1 hs0) hgrow.size
  · rcases hown'.2 with ⟨h', _⟩ | ⟨g', cap', cur, h', _⟩
    · obtain ⟨g, cap, hv⟩ := hown.2.2.2
      have := hnil h'
      rw [hv] at this; simp at this
    · exact ⟨g', cap', by simpa using h'⟩
/-- 'append(v, z)', the new slice written out. -/
theorem wpAppV1 {α : Type} {enc : α → Value} (henc : ∀ x, (enc x).oneCell' = true) {P : Program} {t e : TypeId} {zv : Value} {bytes : Nat} (T : SliceV P t e zv bytes) (hzc : zv.cells.size = 1) {ops : Array Oper} {rest : List Oper} {o : Oper} {a : Act} {Q : Exit → Act → World → Prop} (hgd : o.guard = none) (s x : Operand)
    (ho : o.op = .call { callee := .builtin .append, args := #[s, x], argTypes := #[t, t] })
    {base : Nat} {W wr : World} {v : Value} {xs : List α} {z : α} {e' : TypeId} (hs : a.eval s = v) (hown : OwnV enc base e W wr v xs)
    (hx : a.eval x = .slice (some ⟨wr.heap.size, 0, none⟩) 1 1) (hb : bytes ≤ 16) (hn : xs.length < 1000000000000) (n : Nat) (hn1 : xs.length + 1 = n)
    (h : ∀ g cap w', OwnV enc base e W w' (.slice (some ⟨g, 0, none⟩) n cap) (xs ++ [z]) → wpList P ops Q rest (a.put o.dst (.slice (some ⟨g, 0, none⟩) n cap)) w') : wpList P ops Q (o :: rest) a (wr.alloc (.cells #[enc z] e')) := by
  obtain ⟨i, hi, hz0, hz1, hz2⟩ := T.info
  have h1 := hown.1.alloc (.cells #[enc z] e')
  refine wpList_append_own _ hgd s x t ho base e i zv 1 bytes T.under hi hz0 hz1 hz2 hzc (by decide) v _ _ hs h1 ⟨wr.heap.size, 0, none⟩ 1 1 [enc z] hx rfl ?_ ?_ ?_ ?_ ?_ ?_
  · intro j u hj
    match j, hj with
    | 0, hj =>
      simp at hj; subst hj
      show (wr.alloc (.cells #[enc z] e')).cell? ⟨wr.heap.size, 0, none⟩ = _
      rw [cell_of_row _ _ _ _ _ _ (heap_alloc_new wr _)]; rfl
    | j + 1, hj => simp at hj
  · intro u hu; simp at hu; subst hu; exact henc z
  · unfold maxLen; omega
  · have : (xs.length + 1) * bytes ≤ 1000000000000 * 16 := Nat.mul_le_mul (by omega) hb
    omega
  · have := hown.2.2.1; simp; omega
  · intro v' w' hown' hgrow hnil
    have hO : OwnV enc base e W w' v' (xs ++ [z]) := hown.after (ys := [z]) (bw_alloc (bw_refl wr) _) (by simpa using hown') hgrow (fun q => (hnil.1 q).1)
    obtain ⟨g, cap, rfl, _⟩ := hO.cell z
    have e1 : (xs ++ [z]).length = n := by rw [List.length_append]; exact hn1
    rw [e1] at hO ⊢
    exact h g cap w' hO
/-- 'append(v, ys...)', the new slice written out. -/
theorem wpAppVs {α : Type} {enc : α → Value} (henc : ∀ x, (enc x).oneCell' = true) {P : Program} {t e : TypeId} {zv : Value} {bytes : Nat} (T : SliceV P t e zv bytes) (hzc : zv.cells.size = 1) {ops : Array Oper} {rest : List Oper} {o : Oper} {a : Act} {Q : Exit → Act → World → Prop} (hgd : o.guard = none) (s x : Operand)
    (ho : o.op = .call { callee := .builtin .append, args := #[s, x], argTypes := #[t, t] })
    {base : Nat} {W wr : World} {v : Value} {xs ys : List α} {g off c m : Nat} (hs : a.eval s = v) (hown : OwnV enc base e W wr v xs) (hm : m = ys.length)
    (hx : a.eval x = .slice (some ⟨g, off, none⟩) m c) (d : α) (hc : ∀ j, j < ys.length → wr.cell? ⟨g, off + j, none⟩ = some (enc (ys.getD j d))) (hb : bytes ≤ 16) (hn : xs.length + ys.length < 1000000000000) (n : Nat) (hn1 : xs.length + ys.length = n)
    (h : ∀ g cap w', OwnV enc base e W w' (.slice (some ⟨g, 0, none⟩) n cap) (xs ++ ys) → wpList P ops Q rest (a.put o.dst (.slice (some ⟨g, 0, none⟩) n cap)) w') : wpList P ops Q (o :: rest) a wr := by
  obtain ⟨i, hi, hz0, hz1, hz2⟩ := T.info
  subst hm
  have h1 := hown.1
  refine wpList_append_own _ hgd s x t ho base e i zv 1 bytes T.under hi hz0 hz1 hz2 hzc (by decide) v _ _ hs h1 ⟨g, off, none⟩ ys.length c (ys.map enc) hx (by simp) ?_ ?_ ?_ ?_ ?_ ?_
  · intro j u hj
    rw [List.getElem?_map] at hj
    have hjl : j < ys.length := by
      apply Nat.lt_of_not_le
      intro q
      rw [List.getElem?_eq_none q] at hj; cases hj
    have e1 : (⟨g, off, none⟩ : Addr).add j = ⟨g, off + j, none⟩ := by unfold Addr.add; split <;> simp_all
    rw [e1, hc j hjl]
    rw [List.getElem?_eq_getElem hjl] at hj
    simp only [Option.map_some] at hj
    rw [← hj]
    simp [List.getD, hjl]
  · intro u hu
    obtain ⟨z, _, rfl⟩ := List.mem_map.1 hu
    exact henc z
  · unfold maxLen; omega
  · have : (xs.length + ys.length) * bytes ≤ 1000000000000 * 16 := Nat.mul_le_mul (by omega) hb
    omega
  · exact hown.2.2.1
  · intro v' w' hown' hgrow hnil
    have hO : OwnV enc base e W w' v' (xs ++ ys) := hown.after (bw_refl wr) hown' hgrow (fun q => (hnil.1 q).1)
    obtain ⟨g', cap, rfl, _⟩ := hO.cell d
    have e1 : (xs ++ ys).length = n := by rw [List.length_append]; exact hn1
    rw [e1] at hO ⊢
    exact h g' cap w' hO
end Go.Proofs.YtdnikkmioighkaaDoor
