/-
  A slice of bools that a call has made itself: what it holds, a store into it. Over any program; conditions stand in each lemma.
-/
import Derived.Test.YtdnikkmioighkaaDoorOwn
namespace Go.Proofs.YtdnikkmioighkaaDoor
open Go.RowKit
set_option linter.unusedVariables false

structure SliceB (P : Program) (t e : TypeId) : Prop where
  under : P.underlying t = some (.slice e)
  info : ∃ i, P.info? e = some i ∧ i.zero = some (.bool false) ∧ i.size = 1 ∧ i.bytes = 1
def OwnB (base e : Nat) (W w : World) (v : Value) (bs : List Bool) : Prop :=
  w.ownsRow base e 1 v bs.length (bs.map Value.bool) ∧ Below base W w ∧ base ≤ w.heap.size ∧ ∃ g cap, v = .slice (some ⟨g, 0, none⟩) bs.length cap
theorem OwnB.below {base e : Nat} {W w : World} {v : Value} {bs : List Bool} (h : OwnB base e W w v bs) : Below base W w := h.2.1
theorem OwnB.later {base e : Nat} {W w w' : World} {v : Value} {bs : List Bool} (h : OwnB base e W w v bs) (hb : Below w.heap.size w w') : OwnB base e W w' v bs :=
  ⟨h.1.kept (row := none) ⟨hb.os, hb.tape, hb.output, hb.size, fun i hi _ => hb.block i hi⟩ (by cases hv : v.ownBlock <;> simp), h.2.1.trans (hb.mono h.2.2.1), Nat.le_trans h.2.2.1 hb.size, h.2.2.2⟩
theorem OwnB.drewN {base e : Nat} {W w : World} {v : Value} {bs : List Bool} (h : OwnB base e W w v bs) (n : Nat) : OwnB base e W (w.drewN n) v bs := h.later (bw_drewN (bw_refl _) n)
theorem OwnB.cell {base e : Nat} {W w : World} {v : Value} {bs : List Bool} (h : OwnB base e W w v bs) : ∃ g cap, v = .slice (some ⟨g, 0, none⟩) bs.length cap ∧ base ≤ g ∧ g < w.heap.size ∧ bs.length ≤ cap ∧
    (∀ j, j < bs.length → w.cell? ⟨g, j, none⟩ = some (.bool (bs.getD j false))) ∧ ∀ j, w.frozen? ⟨g, j, none⟩ = false := by
  obtain ⟨g, cap, rfl⟩ := h.2.2.2
  have h1 := h.1
  have hlt := h1.lt g rfl
  refine ⟨g, cap, rfl, hlt.1, hlt.2, ?_, fun j hj => ?_, fun j => h1.frozenAt j⟩
  · rcases h1.2 with ⟨h', _⟩ | ⟨g', cap', cur, h', _, _, hn, hm, _⟩
    · simp at h'
    · simp only [Value.slice.injEq] at h'; omega
  · rw [h1.cellAt j (by omega)]
    simp [List.getD, hj]
theorem OwnB.stored {base e : Nat} {W w : World} {g cap : Nat} {bs : List Bool} (h : OwnB base e W w (.slice (some ⟨g, 0, none⟩) bs.length cap) bs) (j : Nat) (z : Bool) :
    OwnB base e W (w.setCell ⟨g, j, none⟩ (.bool z)) (.slice (some ⟨g, 0, none⟩) bs.length cap) (bs.set j z) := by
  have hs := h.1.stored j (.bool z)
  have hlt := h.1.lt g rfl
  obtain ⟨g', cap', hv⟩ := h.2.2.2
  refine ⟨?_, h.2.1.setCell hlt.1 _, by simp [World.setCell]; exact h.2.2.1, g', cap', by simpa using hv⟩
  simpa [List.map_set] using hs.1
theorem wpMakeB {P : Program} {t e : TypeId} (T : SliceB P t e) {ops : Array Oper} {rest : List Oper} {o : Oper} {a : Act} {Q : Exit → Act → World → Prop} (hgd : o.guard = none) (l c : Operand)
    (hop : o.op = Op.makeSlice t l c) {w : World} {kl kc : IntKind} {L C : Int} (n : Nat) (hl : a.eval l = .int kl L) (hc : a.eval c = .int kc C) (hL : L = (n : Int)) (hC : C = (n : Int)) (hn : n ≤ 1000000000000)
    (h : ∀ w', OwnB w.heap.size e w w' (.slice (some ⟨w.heap.size, 0, none⟩) n n) (List.replicate n false) → wpList P ops Q rest (a.put o.dst (.slice (some ⟨w.heap.size, 0, none⟩) n n)) w') : wpList P ops Q (o :: rest) a w := by
  obtain ⟨i, hi, hz0, hz1, hz2⟩ := T.info
  refine wpList_make_full w hgd l c t hop w.heap.size e i (.bool false) 1 T.under hi hz0 hz1 kl kc L C n hl hc hL hC ?_ ?_ (Nat.le_refl _) ?_
  · rw [hz2]; omega
  · unfold maxLen; omega
  · intro w' hown hgrow
    refine h w' ⟨?_, (Below.refl _ w).grown hgrow (Nat.le_refl _) (fun _ h => by cases h), hgrow.size, w.heap.size, n, by simp⟩
    have e1 : (madeCells (Value.bool false).cells (n * 1)).toList = (List.replicate n false).map Value.bool := by
      rw [Nat.mul_one, List.map_replicate]
      exact toList_madeCells_one _ _
    rw [e1] at hown
    simpa using hown
end Go.Proofs.YtdnikkmioighkaaDoor
