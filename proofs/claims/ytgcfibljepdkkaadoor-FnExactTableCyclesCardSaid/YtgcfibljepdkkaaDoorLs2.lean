/-
  Lists of int64 in bounds of blocks, and the marking that changes only such a block. Conditions stand in each contract.
-/
import Derived.Test.YtgcfibljepdkkaaDoorLst
namespace Go.Proofs.YtgcfibljepdkkaaDoor
open Go.RowKit
set_option linter.unusedVariables false

/-- As HasL, the row's block between lo and hi. -/
def HasIn (lo hi : Nat) (w : World) (a : Option Addr) (c : Nat) (xs : List Int) : Prop :=
  xs = [] ∨ ∃ g, a = some ⟨g, 0, none⟩ ∧ lo ≤ g ∧ g < hi ∧ w.ownsRow g 2 1 (.slice a xs.length c) xs.length (xs.map (Value.int .i64))
/-- Only blocks between lo and hi may differ, and new ones may be there. -/
structure FarI (lo hi : Nat) (w w' : World) : Prop where
  os : w'.os = w.os
  tape : w'.tape = w.tape
  output : w'.output = w.output
  size : w.heap.size ≤ w'.heap.size
  block : ∀ k, k < w.heap.size → ¬ (lo ≤ k ∧ k < hi) → w'.heap[k]? = w.heap[k]?

theorem row_kept {w w' : World} {base e n c g : Nat} {xs : List Value} (h : w.ownsRow base e 1 (.slice (some ⟨g, 0, none⟩) n c) n xs) (hb : w'.heap[g]? = w.heap[g]?) : w'.ownsRow base e 1 (.slice (some ⟨g, 0, none⟩) n c) n xs := by
  refine ⟨h.1, ?_⟩
  rcases h.2 with hn | ⟨g', cap, cur, hv, hlo, hgg, rest⟩
  · exact .inl hn
  · refine .inr ⟨g', cap, cur, hv, hlo, ?_, rest⟩
    simp only [Value.slice.injEq, Option.some.injEq, Addr.mk.injEq, and_true] at hv
    obtain ⟨rfl, _⟩ := hv
    rw [hb]; exact hgg
theorem HasL.toIn {base : Nat} {w : World} {a : Option Addr} {c : Nat} {xs : List Int} (h : HasL base w a c xs) : HasIn base w.heap.size w a c xs := by
  rcases h with h | ⟨g, rfl, h2, h3⟩
  · exact .inl h
  · exact .inr ⟨g, rfl, h2, (h3.lt g rfl).2, h3⟩
theorem HasIn.toL {lo hi : Nat} {w : World} {a : Option Addr} {c : Nat} {xs : List Int} (h : HasIn lo hi w a c xs) : HasL lo w a c xs := by
  rcases h with h | ⟨g, h1, h2, h3, h4⟩
  · exact .inl h
  · exact .inr ⟨g, h1, h2, h4⟩
theorem HasIn.nil (lo hi : Nat) (w : World) (a : Option Addr) (c : Nat) : HasIn lo hi w a c [] := .inl rfl
theorem HasIn.under {lo hi B : Nat} {w w' : World} {a : Option Addr} {c : Nat} {xs : List Int} (h : HasIn lo hi w a c xs) (hb : Below B w w') (hB : hi ≤ B) : HasIn lo hi w' a c xs := by
  rcases h with h | ⟨g, rfl, h2, h3, h4⟩
  · exact .inl h
  · exact .inr ⟨g, rfl, h2, h3, row_kept h4 (hb.block g (by omega))⟩
theorem HasIn.far {lo hi lo' hi' : Nat} {w w' : World} {a : Option Addr} {c : Nat} {xs : List Int} (h : HasIn lo hi w a c xs) (hb : FarI lo' hi' w w') (hB : hi ≤ lo' ∨ hi' ≤ lo) : HasIn lo hi w' a c xs := by
  rcases h with h | ⟨g, rfl, h2, h3, h4⟩
  · exact .inl h
  · exact .inr ⟨g, rfl, h2, h3, row_kept h4 (hb.block g (h4.lt g rfl).2 (by omega))⟩
theorem HasIn.drewN {lo hi : Nat} {w : World} {a : Option Addr} {c : Nat} {xs : List Int} (h : HasIn lo hi w a c xs) (n : Nat) : HasIn lo hi (w.drewN n) a c xs := h.under (B := hi) ⟨rfl, rfl, rfl, Nat.le_refl _, fun _ _ => rfl⟩ (Nat.le_refl _)
theorem FarI.below {lo hi B : Nat} {w w' : World} (h : FarI lo hi w w') (hB : B ≤ lo) (hw : B ≤ w.heap.size) : Below B w w' := ⟨h.os, h.tape, h.output, h.size, fun k hk => h.block k (by omega) (by omega)⟩
theorem markInt64S_in (xs : List Int) (a : Option Addr) (c lo hi : Nat) (k : Int) (w : World) (h : HasIn lo hi w a c xs) (hx : xs.length < 1000000000000) (k0 : 0 ≤ k) (k1 : k ≤ 1000000000000) :
    Calls Tryd.prog 9 #[.slice a xs.length c, .int .i64 k] w fun e w' => e = .returned (.int .i64 (k + xs.length)) ∧ ∃ ys, ys.length = xs.length ∧ Marked k ys ∧ HasIn lo hi w' a c ys ∧ FarI lo hi w w' := by
  rcases Nat.eq_zero_or_pos xs.length with h0 | h0
  · have hx0 : xs = [] := List.eq_nil_of_length_eq_zero h0
    subst hx0
    go_enter Tryd.func9, Tryd.ntmps9
    go_wp2
    go_loopw [1, 5] (fun s i wr => i = .int .i64 0 ∧ s = .int .i64 k ∧ wr = w) (fun _ _ _ => 0)
    case atStart => exact ⟨rfl, rfl, rfl⟩
    case round =>
      obtain ⟨rfl, rfl, rfl⟩ := hrel
      go_wp2
      go_ret
      exact ⟨ret_i64 (by simp), [], rfl, fun j hj => by simp at hj, .inl rfl, rfl, rfl, rfl, Nat.le_refl _, fun _ _ _ => rfl⟩
  · obtain ⟨g, rfl, hg1, hg2, hown⟩ : ∃ g, a = some ⟨g, 0, none⟩ ∧ lo ≤ g ∧ g < hi ∧ OwnI .i64 g 2 w w (.slice (some ⟨g, 0, none⟩) xs.length c) xs := by
      rcases h with h | ⟨g, rfl, h2, h3, h4⟩
      · subst h; simp at h0
      · exact ⟨g, rfl, h2, h3, h4, Below.refl _ _, by have := (h4.lt g rfl).2; omega, g, c, rfl⟩
    have HO := Lib.hid hown
    clear hown h
    go_enter Tryd.func9, Tryd.ntmps9
    go_wp2
    go_loopw [1, 5] (fun s i wr => ∃ (n : Nat) (ys : List Int), n ≤ xs.length ∧ i = .int .i64 n ∧ s = .int .i64 (k + n) ∧ Hid (ys.length = xs.length) ∧ Hid (∀ j, j < n → ys.getD j 0 = k + j) ∧ Hid (OwnI .i64 g 2 w wr (.slice (some ⟨g, 0, none⟩) xs.length c) ys) ∧ Hid (∀ b, b ≠ g → wr.heap[b]? = w.heap[b]?)) (fun _ i _ => xs.length - (intOf i).toNat)
    case atStart => exact ⟨0, xs, Nat.zero_le _, rfl, by simp, Lib.hid rfl, Lib.hid (fun j hj => by omega), HO, Lib.hid (fun _ _ => rfl)⟩
    case round =>
      obtain ⟨n, ys, hn, rfl, rfl, hl, hm, ho, hfar⟩ := hrel
      by_cases hlt : n < xs.length
      · have hc := ho.out.cell
        obtain ⟨g', cap, hv, _, _, _, _, h5, h6⟩ := hc
        simp only [Value.slice.injEq, Option.some.injEq, Addr.mk.injEq, and_true] at hv
        obtain ⟨rfl, _, rfl⟩ := hv
        have q1 := h5 n (by rw [hl.out]; exact hlt)
        have q2 := h6 n
        obtain ⟨x, hx'⟩ : ∃ x, ys.getD n 0 = x := ⟨_, rfl⟩
        rw [hx'] at q1
        clear hx' h5 h6
        have r0 : (0 : Int) ≤ (n : Int) := by omega
        have r1 : (n : Int) < (xs.length : Int) := by omega
        have hst : Hid (OwnI .i64 g 2 w (wr.setCell ⟨g, n, none⟩ (.int .i64 (k + n))) (.slice (some ⟨g, 0, none⟩) xs.length c) (ys.set n (k + n))) := by
          have h7 := ho.out
          rw [← hl.out] at h7 ⊢
          exact Lib.hid (h7.stored n (k + n))
        have hf2 : Hid (∀ b, b ≠ g → (wr.setCell ⟨g, n, none⟩ (.int .i64 (k + n))).heap[b]? = w.heap[b]?) := Lib.hid fun b hb => (Below.heap_setCell wr ⟨g, n, none⟩ _ b hb).trans (hfar.out b hb)
        have hm2 : Hid (∀ j, j < n + 1 → (ys.set n (k + n)).getD j 0 = k + j) := Lib.hid fun j hj => by
          have hl' := hl.out
          by_cases e : j = n
          · subst e; simp [List.getD, show j < ys.length by omega]
          · have := hm.out j (by omega)
            simp only [List.getD, List.getElem?_set_ne (Ne.symm e)] at this ⊢
            exact this
        have hl2 : Hid ((ys.set n (k + n)).length = xs.length) := Lib.hid (by rw [List.length_set, hl.out])
        go_wp2
        go_roundw
        case rel => exact ⟨n + 1, ys.set n (k + n), by omega, by go_num, by go_num, hl2, hm2, hst, hf2⟩
        case measure => simp [intOf]; omega
      · have hke : n = xs.length := by omega
        subst hke
        have hfin : FarI lo hi w wr := ⟨ho.out.below.os, ho.out.below.tape, ho.out.below.output, ho.out.below.size, fun b _ hb => hfar.out b (by omega)⟩
        have HFar := Lib.hid hfin
        have hin : HasIn lo hi wr (some ⟨g, 0, none⟩) c ys := .inr ⟨g, rfl, hg1, hg2, by have h9 := ho.out.1; rw [hl.out] at h9 ⊢; exact h9⟩
        have HIn := Lib.hid hin
        clear hfin hin
        go_wp2
        go_ret
        exact ⟨rfl, ys, hl.out, fun j hj => hm.out j (by rw [← hl.out]; exact hj), HIn.out, HFar.out⟩
end Go.Proofs.YtgcfibljepdkkaaDoor
