/-
  Contract of the program's TableCycles where the table is no valid one; how two rows of a call's own live beside each other. Condition: the text's length.
-/
import Derived.Test.YtdnikkmioighkaaDoorT4
import Derived.Test.YtdnikkmioighkaaDoorOwB
import Derived.Deep.RegionHeld3
import Derived.Deep.DeepCutAuto
import Derived.RegionTactic
import Derived.ChangeAlike
import Derived.Deep.RegionWith
namespace Go.Proofs.YtdnikkmioighkaaDoor
open Go.RowKit
set_option linter.unusedVariables false

theorem tBoT : SliceB Tryd.prog 48 4 := ⟨Tryd.underlying48, info_parts (by kernel_rfl)⟩
/-- 'append(v, z)', with what becomes of the other blocks. -/
theorem wpAppG {P : Program} {t e : TypeId} {k : IntKind} {bytes : Nat} (T : SliceT P t e k bytes) {ops : Array Oper} {rest : List Oper} {o : Oper} {a : Act} {Q : Exit → Act → World → Prop} (hgd : o.guard = none) (s x : Operand)
    (ho : o.op = .call { callee := .builtin .append, args := #[s, x], argTypes := #[t, t] })
    {base : Nat} {W wr : World} {v : Value} {xs : List Int} {z : Int} {e' : TypeId} (hs : a.eval s = v) (hown : OwnI k base e W wr v xs)
    (hx : a.eval x = .slice (some ⟨wr.heap.size, 0, none⟩) 1 1) (hb : bytes ≤ 8) (hn : xs.length < 1000000000000) (n : Nat) (hn1 : xs.length + 1 = n)
    (h : ∀ g cap w', OwnI k base e W w' (.slice (some ⟨g, 0, none⟩) n cap) (xs ++ [z]) → (∀ i, i < wr.heap.size → v.ownBlock ≠ some i → w'.heap[i]? = wr.heap[i]?) → wr.heap.size ≤ w'.heap.size → wpList P ops Q rest (a.put o.dst (.slice (some ⟨g, 0, none⟩) n cap)) w') : wpList P ops Q (o :: rest) a (wr.alloc (.cells #[.int k z] e')) := by
  obtain ⟨i, hi, hz0, hz1, hz2⟩ := T.info
  have h1 := hown.1.alloc (.cells #[.int k z] e')
  refine wpList_append_own _ hgd s x t ho base e i (.int k 0) 1 bytes T.under hi hz0 hz1 hz2 rfl (by decide) v _ _ hs h1 ⟨wr.heap.size, 0, none⟩ 1 1 [.int k z] hx rfl ?_ ?_ ?_ ?_ ?_ ?_
  · intro j u hj
    match j, hj with
    | 0, hj =>
      simp at hj; subst hj
      show (wr.alloc (.cells #[.int k z] e')).cell? ⟨wr.heap.size, 0, none⟩ = _
      rw [cell_of_row _ _ _ _ _ _ (heap_alloc_new wr _)]; rfl
    | j + 1, hj => simp at hj
  · intro u hu; simp at hu; subst hu; rfl
  · unfold maxLen; omega
  · have : (xs.length + 1) * bytes ≤ 1000000000000 * 8 := Nat.mul_le_mul (by omega) hb
    omega
  · have := hown.2.2.1; simp; omega
  · intro v' w' hown' hgrow hnil
    have hsz := hgrow.size
    have hO : OwnI k base e W w' v' (xs ++ [z]) := by
      refine ⟨by simpa using hown', ?_, ?_, ?_⟩
      · exact (hown.2.1.alloc hown.2.2.1 _).grown hgrow (by have := hown.2.2.1; simp; omega) fun k' hk' => (h1.lt k' hk').1
      · have h3 := hown.2.2.1; simp at hsz; omega
      · rcases hown'.2 with ⟨h', _⟩ | ⟨g', cap', cur, h', _⟩
        · obtain ⟨g, cap, hv⟩ := hown.2.2.2
          have := (hnil.1 h').1
          rw [hv] at this; simp at this
        · exact ⟨g', cap', by simpa using h'⟩
    obtain ⟨g, cap, rfl, _⟩ := hO.cell
    have e : (xs ++ [z]).length = n := by rw [List.length_append]; exact hn1
    rw [e] at hO ⊢
    refine h g cap w' hO (fun i hi hne => ?_) (by simp at hsz; omega)
    rw [hgrow.block i (by simp; omega) (fun c => hne c.symm)]
    exact (bw_alloc (bw_refl wr) (.cells #[.int k z] e')).block i hi
/-- Both rows. -/
theorem OwnB.blockIs {base e : Nat} {W w : World} {v : Value} {bs : List Bool} (h : OwnB base e W w v bs) : ∃ g cap cur, v = .slice (some ⟨g, 0, none⟩) bs.length cap ∧ w.heap[g]? = some (.cells cur e (0, 0)) := by
  rcases h.1.2 with ⟨h', _⟩ | ⟨g', cap', cur, h', _, hg, _⟩
  · obtain ⟨g, cap, hv⟩ := h.2.2.2
    rw [hv] at h'; simp at h'
  · exact ⟨g', cap', cur, h', hg⟩
theorem OwnI.blockIs {k : IntKind} {base e : Nat} {W w : World} {v : Value} {xs : List Int} (h : OwnI k base e W w v xs) : ∃ g cap cur, v = .slice (some ⟨g, 0, none⟩) xs.length cap ∧ w.heap[g]? = some (.cells cur e (0, 0)) := by
  rcases h.1.2 with ⟨h', _⟩ | ⟨g', cap', cur, h', _, hg, _⟩
  · obtain ⟨g, cap, hv⟩ := h.2.2.2
    rw [hv] at h'; simp at h'
  · exact ⟨g', cap', cur, h', hg⟩
/-- The row of bools where only another row or new blocks have changed. -/
theorem OwnB.other {base e e' : Nat} {k : IntKind} {W w w' : World} {v u u' : Value} {bs : List Bool} {xs ys : List Int} (h : OwnB base e W w v bs) (hu : OwnI k base e' W w u xs) (hu' : OwnI k base e' W w' u' ys) (hne : e ≠ e')
    (hk : ∀ i, i < w.heap.size → u.ownBlock ≠ some i → w'.heap[i]? = w.heap[i]?) (hs : w.heap.size ≤ w'.heap.size) : OwnB base e W w' v bs := by
  obtain ⟨g, cap, cur, rfl, hg⟩ := h.blockIs
  obtain ⟨g2, cap2, cur2, rfl, hg2⟩ := hu.blockIs
  have hlt : g < w.heap.size := (Array.getElem?_eq_some_iff.1 hg).1
  have hd : g2 ≠ g := fun c => by
    subst c
    rw [hg] at hg2
    simp at hg2
    exact hne hg2.2
  refine ⟨row_kept h.1 (hk g hlt (by simp [Value.ownBlock]; exact hd)), hu'.below, Nat.le_trans h.2.2.1 hs, h.2.2.2⟩
/-- A store into the row of bools leaves the other one. -/
theorem OwnI.other {base e e' : Nat} {k : IntKind} {W w : World} {u : Value} {g j n cap : Nat} {z : Value} {bs : List Bool} {xs : List Int} (hu : OwnI k base e' W w u xs) (h : OwnB base e W w (.slice (some ⟨g, 0, none⟩) n cap) bs) (hne : e ≠ e') : OwnI k base e' W (w.setCell ⟨g, j, none⟩ z) u xs := by
  obtain ⟨g1, cap1, cur1, hv, hg1⟩ := h.blockIs
  simp only [Value.slice.injEq, Option.some.injEq, Addr.mk.injEq, and_true] at hv
  obtain ⟨rfl, _, rfl⟩ := hv
  obtain ⟨g2, cap2, cur2, rfl, hg2⟩ := hu.blockIs
  have hd : g2 ≠ g := fun c => by
    subst c
    rw [hg1] at hg2
    simp at hg2
    exact hne hg2.2
  have hbase : base ≤ g := (h.1.lt g rfl).1
  refine ⟨row_kept hu.1 (Below.heap_setCell w ⟨g, j, none⟩ z g2 hd), hu.2.1.setCell hbase _, by simpa [World.setCell] using hu.2.2.1, g2, cap2, rfl⟩
set_option maxHeartbeats 2000000 in
set_option maxRecDepth 100000 in
theorem TableCycles_no (wd : Int) (s : ByteArray) (w : World) (hs : s.size ≤ 1048576) (hno : tcB wd s = false) :
    Calls Tryd.prog 10 #[.int .i64 wd, .string s] w (RetL (nl (tcL wd s)) (tcB wd s) w) := by
  cases h1 : inR wd 0 6 with
  | false =>
    have e : tcB wd s = false := by unfold tcB; rw [h1]; rfl
    rw [tcL_no e, e]; clear e
    go_enter Tryd.func10, Tryd.ntmps10
    go_wp2_with fail
    go_quiet ((go_at_call 13; exact quiet_left (inRange_of h1 _)))
    go_wp2
    go_ret2
    exact ⟨_, _, rfl, .inl rfl, bw_drewN (bw_alloc (bw_alloc (bw_refl _) _) _) _⟩
  | true =>
    cases h2 : bitsB s with
    | false =>
      have e : tcB wd s = false := by unfold tcB; rw [h1, h2]; rfl
      rw [tcL_no e, e]; clear e
      go_enter Tryd.func10, Tryd.ntmps10
      go_wp2_with fail
      go_region_with (first | (go_at_call 13; (with_reducible refine (inRange_of h1 _).mono ?_); rintro e w' ⟨rfl, rfl⟩) | (go_at_call 18; (with_reducible refine (IsBits_of h2 _ hs).mono ?_); rintro e w2 ⟨rfl, hb2⟩))
      all_goals
        go_wp2
        go_ret2
        exact ⟨_, _, rfl, .inl rfl, bw_call (bw_drew (bw_alloc (bw_alloc (bw_refl _) _) _)) hb2⟩
    | true =>
      have b1 := inR_true h1
      have s1 := sh_pos wd
      have s2 : sh wd ≤ 64 := sh_le b1.2
      have hs2 := sh_wrap (n := wd) (by omega)
      have hs3 : IntKind.i64.wrap (2 ^ wd.toNat) = sh wd := by show IntKind.i64.wrap (sh wd) = sh wd; rw [IntKind.wrap_i64]; omega
      have e : tcB wd s = !((s.size : Int) != sh wd) := by unfold tcB; rw [h1, h2, Bool.eq_iff_iff]; simp
      cases hq : ((s.size : Int) != sh wd) with
      | true =>
        rw [hq] at e
        have e : tcB wd s = false := e
        rw [tcL_no e, e]; clear e
        go_enter Tryd.func10, Tryd.ntmps10
        go_wp2_with fail
        go_region_held3 (fun w' => w'.cell? ⟨w.heap.size, 0, none⟩ = some (.int .i64 wd) ∧ w'.cell? ⟨w.heap.size + 1, 0, none⟩ = some (.string s)) (go_keep)
          (first | (go_at_call 13; (with_reducible refine (inRange_of h1 _).mono ?_); rintro e w' ⟨rfl, rfl⟩)
                 | (go_at_call 18; (with_reducible refine (IsBits_of h2 _ hs).mono ?_); rintro e w2 ⟨rfl, hb2⟩
                    have k0 : w2.cell? ⟨w.heap.size, 0, none⟩ = some (.int .i64 wd) := by rw [hb2.cell (p := ⟨w.heap.size, 0, none⟩) (by simp; omega)]; simp
                    have k1 : w2.cell? ⟨w.heap.size + 1, 0, none⟩ = some (.string s) := by rw [hb2.cell (p := ⟨w.heap.size + 1, 0, none⟩) (by simp)]; simp))
        all_goals
          go_wp2
          go_ret2
          exact ⟨_, _, rfl, .inl rfl, bw_call (bw_drew (bw_alloc (bw_alloc (bw_refl _) _) _)) hb2⟩
      | false => rw [hq, hno] at e; cases e
end Go.Proofs.YtdnikkmioighkaaDoor
