/-
  A slice of integers that a call has made itself: what it holds, how it grows by append, how its bytes become a string. Over any program; conditions stand in each lemma.
-/
import Derived.Test.YthkgaldpajnjgaaKit
import Derived.Laws.BytesArg
import Derived.Laws.IdiomStrings
import Derived.OwnWalk
namespace Go.Proofs.Ythkgaldpajnjgaa
open Go.RowKit
set_option linter.unusedVariables false

/-- t is a slice type over e, an integer kind k of so many bytes. -/
structure SliceT (P : Program) (t e : TypeId) (k : IntKind) (bytes : Nat) : Prop where
  under : P.underlying t = some (.slice e)
  elem : P.underlying e = some (.int k)
  info : ∃ i, P.info? e = some i ∧ i.zero = some (.int k 0) ∧ i.size = 1 ∧ i.bytes = bytes

/-- In world w the value v is a slice (not nil) of the call's own, its elements xs; below block 'base' nothing has turned since W. -/
def OwnI (k : IntKind) (base e : Nat) (W w : World) (v : Value) (xs : List Int) : Prop :=
  w.ownsRow base e 1 v xs.length (xs.map (Value.int k)) ∧ Below base W w ∧ base ≤ w.heap.size ∧ ∃ g cap, v = .slice (some ⟨g, 0, none⟩) xs.length cap

theorem OwnI.below {k : IntKind} {base e : Nat} {W w : World} {v : Value} {xs : List Int} (h : OwnI k base e W w v xs) : Below base W w := h.2.1

theorem OwnI.later {k : IntKind} {base e : Nat} {W w w' : World} {v : Value} {xs : List Int} (h : OwnI k base e W w v xs) (hb : Below w.heap.size w w') : OwnI k base e W w' v xs :=
  ⟨h.1.kept (row := none) ⟨hb.os, hb.tape, hb.output, hb.size, fun i hi _ => hb.block i hi⟩ (by cases hv : v.ownBlock <;> simp), h.2.1.trans (hb.mono h.2.2.1), Nat.le_trans h.2.2.1 hb.size, h.2.2.2⟩
theorem OwnI.alloc {k : IntKind} {base e : Nat} {W w : World} {v : Value} {xs : List Int} (h : OwnI k base e W w v xs) (o : Obj) : OwnI k base e W (w.alloc o) v xs := h.later (bw_alloc (bw_refl _) o)
theorem OwnI.drewN {k : IntKind} {base e : Nat} {W w : World} {v : Value} {xs : List Int} (h : OwnI k base e W w v xs) (n : Nat) : OwnI k base e W (w.drewN n) v xs := h.later (bw_drewN (bw_refl _) n)

/-- '[]T{}'. -/
theorem OwnI.made {k : IntKind} {base e : Nat} {W w : World} (hb : Below base W w) (hB : base ≤ w.heap.size) : OwnI k base e W (w.alloc (.cells #[] e)) (.slice (some ⟨w.heap.size, 0, none⟩) 0 0) [] :=
  ⟨World.ownsRow_lit (base := base) (e := e) (size := 1) w #[] 0 hB (Nat.zero_le _) rfl, hb.alloc hB _, by simp; omega, _, _, rfl⟩

theorem OwnI.cell {k : IntKind} {base e : Nat} {W w : World} {v : Value} {xs : List Int} (h : OwnI k base e W w v xs) : ∃ g cap, v = .slice (some ⟨g, 0, none⟩) xs.length cap ∧ base ≤ g ∧ g < w.heap.size ∧ xs.length ≤ cap ∧ cap ≤ maxLen ∧
    (∀ j, j < xs.length → w.cell? ⟨g, j, none⟩ = some (.int k (xs.getD j 0))) ∧ ∀ j, w.frozen? ⟨g, j, none⟩ = false := by
  obtain ⟨g, cap, rfl⟩ := h.2.2.2
  have h1 := h.1
  have hlt := h1.lt g rfl
  refine ⟨g, cap, rfl, hlt.1, hlt.2, ?_, ?_, fun j hj => ?_, fun j => h1.frozenAt j⟩
  · rcases h1.2 with ⟨h', _⟩ | ⟨g', cap', cur, h', _, _, hn, hm, _⟩
    · simp at h'
    · simp only [Value.slice.injEq] at h'; omega
  · rcases h1.2 with ⟨h', _⟩ | ⟨g', cap', cur, h', _, _, hn, hm, _⟩
    · simp at h'
    · simp only [Value.slice.injEq] at h'; omega
  · rw [h1.cellAt j (by omega)]
    simp [List.getD, hj]

/-- A store into it. -/
theorem OwnI.stored {k : IntKind} {base e : Nat} {W w : World} {g cap : Nat} {xs : List Int} (h : OwnI k base e W w (.slice (some ⟨g, 0, none⟩) xs.length cap) xs) (j : Nat) (z : Int) :
    OwnI k base e W (w.setCell ⟨g, j, none⟩ (.int k z)) (.slice (some ⟨g, 0, none⟩) xs.length cap) (xs.set j z) := by
  have hs := h.1.stored j (.int k z)
  have hlt := h.1.lt g rfl
  refine ⟨?_, h.2.1.setCell hlt.1 _, by simp [World.setCell]; exact h.2.2.1, g, cap, by simp⟩
  simpa [List.map_set] using hs.1

/-- 'append(v, z)'. -/
theorem wpApp {P : Program} {t e : TypeId} {k : IntKind} {bytes : Nat} (T : SliceT P t e k bytes) {ops : Array Oper} {rest : List Oper} {o : Oper} {a : Act} {Q : Exit → Act → World → Prop} (hgd : o.guard = none) (s x : Operand)
    (ho : o.op = .call { callee := .builtin .append, args := #[s, x], argTypes := #[t, t] })
    {base : Nat} {W wr : World} {v : Value} {xs : List Int} {z : Int} {e' : TypeId} (hs : a.eval s = v) (hown : OwnI k base e W wr v xs)
    (hx : a.eval x = .slice (some ⟨wr.heap.size, 0, none⟩) 1 1) (hb : bytes ≤ 8) (hn : xs.length < 1000000000000)
    (h : ∀ v' w', OwnI k base e W w' v' (xs ++ [z]) → wpList P ops Q rest (a.put o.dst v') w') : wpList P ops Q (o :: rest) a (wr.alloc (.cells #[.int k z] e')) := by
  obtain ⟨i, hi, hz0, hz1, hz2⟩ := T.info
  have h1 := hown.1.alloc (.cells #[.int k z] e')
  refine wpList_append_own _ hgd s x t ho base e i (.int k 0) 1 bytes T.under hi hz0 hz1 hz2 rfl (by decide) v _ _ hs h1 ⟨wr.heap.size, 0, none⟩ 1 1 [.int k z] hx rfl ?_ ?_ ?_ ?_ ?_ ?_
  · intro j u hj
    match j, hj with
    | 0, hj =>
      simp at hj; subst hj
      show (wr.alloc (.cells #[.int k z] e')).cell? ⟨wr.heap.size, 0, none⟩ = _
      rw [cell_of_row _ _ _ _ _ _ (heap_alloc_new wr _)]; rfl
    | j + 1, hj => simp at hj
  · intro u hu; simp at hu; subst hu; rfl
  · unfold maxLen; omega
  · have : (xs.length + 1) * bytes ≤ 1000000000000 * 8 := Nat.mul_le_mul (by omega) hb
    omega
  · have := hown.2.2.1; simp; omega
  · intro v' w' hown' hgrow hnil
    refine h v' w' ⟨by simpa using hown', ?_, ?_, ?_⟩
    · exact (hown.2.1.alloc hown.2.2.1 _).grown hgrow (by have := hown.2.2.1; simp; omega) fun k' hk' => (h1.lt k' hk').1
    · have h2 := hgrow.size; have h3 := hown.2.2.1; simp at h2; omega
    · rcases hown'.2 with ⟨h', _⟩ | ⟨g', cap', cur, h', _⟩
      · obtain ⟨g, cap, hv⟩ := hown.2.2.2
        have := (hnil.1 h').1
        rw [hv] at this; simp at this
      · exact ⟨g', cap', by simpa using h'⟩

/-- 'make([]T, n)'. -/
theorem wpMake {P : Program} {t e : TypeId} {k : IntKind} {bytes : Nat} (T : SliceT P t e k bytes) {ops : Array Oper} {rest : List Oper} {o : Oper} {a : Act} {Q : Exit → Act → World → Prop} (hgd : o.guard = none) (l c : Operand)
    (hop : o.op = Op.makeSlice t l c) {w : World} {kl kc : IntKind} {L C : Int} (n : Nat) (hl : a.eval l = .int kl L) (hc : a.eval c = .int kc C) (hL : L = (n : Int)) (hC : C = (n : Int)) (hb : bytes ≤ 8) (hn : n ≤ 1000000000000)
    (h : ∀ w', OwnI k w.heap.size e w w' (.slice (some ⟨w.heap.size, 0, none⟩) n n) (List.replicate n 0) → wpList P ops Q rest (a.put o.dst (.slice (some ⟨w.heap.size, 0, none⟩) n n)) w') : wpList P ops Q (o :: rest) a w := by
  obtain ⟨i, hi, hz0, hz1, hz2⟩ := T.info
  refine wpList_make_full w hgd l c t hop w.heap.size e i (.int k 0) 1 T.under hi hz0 hz1 kl kc L C n hl hc hL hC ?_ ?_ (Nat.le_refl _) ?_
  · rw [hz2]
    have : bytes * n ≤ 8 * 1000000000000 := Nat.mul_le_mul hb hn
    omega
  · unfold maxLen; omega
  · intro w' hown hgrow
    refine h w' ⟨?_, (Below.refl _ w).grown hgrow (Nat.le_refl _) (fun _ h => by cases h), hgrow.size, w.heap.size, n, by simp⟩
    have e1 : (madeCells (Value.int k 0).cells (n * 1)).toList = (List.replicate n (0 : Int)).map (Value.int k) := by
      rw [Nat.mul_one, List.map_replicate]
      exact toList_madeCells_one _ _
    rw [e1] at hown
    simpa using hown

/-- 'string(v)'. -/
theorem OwnI.conv {P : Program} {t e : TypeId} (T : SliceT P t e .u8 1) {base : Nat} {W w : World} {v : Value} {xs : List Int} (h : OwnI .u8 base e W w v xs) {dst : TypeId} (hd : P.underlying dst = some .string) :
    (convert t dst v).run P w = .ok (.string (strOfNums xs)) w := by
  obtain ⟨g, cap, rfl, _, _, _, _, hc, _⟩ := h.cell
  refine run_convert_bytes_arg w t e T.under T.elem g 0 xs.length cap xs rfl (fun i hi => ?_) dst hd
  rw [Nat.zero_add]; exact hc i hi

end Go.Proofs.Ythkgaldpajnjgaa
