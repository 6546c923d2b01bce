/-
  Contract of the reference's l02Solves: whether equations have a solution. Conditions: the list is somebody's own, the width at most 32.
-/
import Derived.Test.YtgcfibljepdkkaaDoorE1
namespace Go.Proofs.YtgcfibljepdkkaaDoor
open Go.RowKit
set_option linter.unusedVariables false

open Classical in
/-- Whether there is a solution. -/
noncomputable def solvB (W : Nat) (es : List Nat) : Bool := decide (Solv W es)
theorem solvB_yes {W : Nat} {es : List Nat} (h : Solv W es) : solvB W es = true := by simp [solvB, h]
theorem solvB_no {W : Nat} {es : List Nat} (h : ¬ Solv W es) : solvB W es = false := by simp [solvB, h]
theorem solvB_true {W : Nat} {es : List Nat} (h : solvB W es = true) : Solv W es := by simpa [solvB] using h
theorem solvB_false {W : Nat} {es : List Nat} (h : solvB W es = false) : ¬ Solv W es := by simpa [solvB] using h
/-- The state of the elimination. -/
structure ElSt (W : Nat) (es : List Nat) (c : Nat) (lv : List Nat) : Prop where
  above : Above c lv
  same : Solv W lv ↔ Solv W es
  lt : ∀ e ∈ lv, e < 2 ^ (W + 1)
  len : lv.length ≤ es.length
theorem elp_len (left : List Nat) (c a : Nat) : ∀ k, (elp left c a k).length ≤ k
  | 0 => by simp [elp]
  | k + 1 => by
    have := elp_len left c a k
    rw [elp]; split
    · omega
    · rw [List.length_append]; simp; omega
theorem ElSt.none {W c : Nat} {es lv : List Nat} (h : ElSt W es c lv) (h0 : ∀ i, i < lv.length → (lv.getD i 0).testBit c = false) : ElSt W es (c + 1) lv :=
  ⟨elim_none h0 h.above, h.same, h.lt, h.len⟩
theorem ElSt.step {W c a : Nat} {es lv : List Nat} (h : ElSt W es c lv) (hc : c < W) (ha : a < lv.length) (hb : (lv.getD a 0).testBit c = true) : ElSt W es (c + 1) (elp lv c a lv.length) :=
  ⟨(elim_step hc ha hb h.above).2, (elim_step hc ha hb h.above).1.symm.trans h.same, elp_lt ha h.lt, Nat.le_trans (elp_len ..) h.len⟩
theorem ElSt.done {W : Nat} {es lv : List Nat} (h : ElSt W es W lv) : Solv W es ↔ ∀ e ∈ lv, e = 0 := h.same.symm.trans (elim_end h.above h.lt)
theorem ElSt.yes {W : Nat} {es lv : List Nat} (h : ElSt W es W lv) (h0 : ∀ i, i < lv.length → lv.getD i 0 = 0) : solvB W es = true :=
  solvB_yes (h.done.2 fun e he => by obtain ⟨i, hi, rfl⟩ := getD_of_mem he; exact h0 i hi)
theorem ElSt.no {W k : Nat} {es lv : List Nat} (h : ElSt W es W lv) (hk : k < lv.length) (h0 : lv.getD k 0 ≠ 0) : solvB W es = false :=
  solvB_no fun c => h0 (h.done.1 c _ (mem_getD hk))
theorem elp_at {left : List Nat} {c a k : Nat} (h : k = a) : elp left c a (k + 1) = elp left c a k := by rw [elp, if_pos h]
theorem elp_x {left : List Nat} {c a k : Nat} (h : k ≠ a) (hb : (left.getD k 0).testBit c = true) : elp left c a (k + 1) = elp left c a k ++ [left.getD k 0 ^^^ left.getD a 0] := by rw [elp, if_neg h, elv, if_pos hb]
theorem elp_o {left : List Nat} {c a k : Nat} (h : k ≠ a) (hb : (left.getD k 0).testBit c = false) : elp left c a (k + 1) = elp left c a k ++ [left.getD k 0] := by rw [elp, if_neg h, elv, hb]; rfl
/-- What is read of a list of numbers. -/
theorem OwnI.nat {base e : Nat} {W w : World} {v : Value} {es : List Nat} (h : OwnI .i64 base e W w v (nl es)) : ∃ g cap, v = .slice (some ⟨g, 0, none⟩) es.length cap ∧ base ≤ g ∧ g < w.heap.size ∧ ∀ j, j < es.length → w.cell? ⟨g, j, none⟩ = some (.int .i64 (es.getD j 0 : Nat)) := by
  obtain ⟨g, cap, rfl, h1, h2, _, _, h5, _⟩ := h.cell
  rw [nl_len] at h5 ⊢
  exact ⟨g, cap, rfl, h1, h2, fun j hj => by rw [h5 j hj, nl_getD]⟩
set_option maxRecDepth 100000 in
set_option maxHeartbeats 2000000 in
theorem l02Solves_any (W : Nat) (es : List Nat) (v : Value) (base : Nat) (W0 w : World) (h : OwnI .i64 base 2 W0 w v (nl es)) (hW : W ≤ 32) (hl : es.length ≤ 1000) (he : ∀ e ∈ es, e < 2 ^ (W + 1)) :
    Calls Tryd.prog 30 #[v, .int .u64 W] w fun e w' => e = .returned (.bool (solvB W es)) ∧ Below w.heap.size w w' := by
  have H := Lib.hid h
  have HE := Lib.hid he
  have HX : Hid ((nl es).length < 100000000) := Lib.hid (by rw [nl_len]; omega)
  clear h he
  go_enter Tryd.func30, Tryd.ntmps30
  go_wp2_with fail
  refine (l00Own_any (nl es) v base W0 _ H.out HX.out).mono ?_
  rintro e w1 ⟨v1, rfl, ho1⟩
  have HO1 := Lib.hid ho1
  clear ho1
  go_wp2
  go_loopw [5, 6] (fun v i wr => ∃ (c : Nat) (lv : List Nat), c ≤ W ∧ i = .int .u64 c ∧ Hid (∃ b0 X0, OwnI .i64 b0 2 X0 wr v (nl lv)) ∧ Hid (ElSt W es c lv) ∧ Hid (Below w.heap.size w wr)) (fun _ i _ => W - (intOf i).toNat)
  case atStart => exact ⟨0, es, Nat.zero_le _, rfl, Lib.hid ⟨_, _, HO1.out⟩, Lib.hid ⟨fun e _ i hi => by omega, Iff.rfl, HE.out, Nat.le_refl _⟩, Lib.hid HO1.out.below⟩
  case round =>
    obtain ⟨c, lv, hc, rfl, ho, hs, hb⟩ := hrel
    by_cases hlt : c < W
    · have hlen := hs.out.len
      obtain ⟨b0, X0, hown⟩ := ho.out
      obtain ⟨g, cap, rfl, hg0, hg1, hcell⟩ := hown.nat
      have HC := Lib.hid hcell
      have HO := Lib.hid hown
      clear hcell hown
      have hp := pow33 hW
      go_wp2
      go_loop [7] (fun i => ∃ k : Nat, k ≤ lv.length ∧ i = .int .i64 k ∧ Hid (∀ j, j < k → (lv.getD j 0).testBit c = false)) (fun i => lv.length - (intOf i).toNat)
      case atStart => exact ⟨0, Nat.zero_le _, rfl, Lib.hid (fun j hj => by omega)⟩
      case round =>
        obtain ⟨k, hk, rfl, hno⟩ := hrel
        by_cases hkl : k < lv.length
        · have q1 := HC.out k hkl
          have hx := hs.out.lt _ (mem_getD hkl)
          obtain ⟨x, HXx⟩ : ∃ x, Hid (lv.getD k 0 = x) := ⟨_, Lib.hid rfl⟩
          rw [HXx.out] at q1 hx
          cases hbit : x.testBit c with
          | false =>
            have hA := and_no (show x < 9223372036854775808 by omega) hbit
            have HN : Hid (∀ j, j < k + 1 → (lv.getD j 0).testBit c = false) := Lib.hid fun j hj => by
              by_cases e : j = k
              · subst e; rw [HXx.out]; exact hbit
              · exact hno.out j (by omega)
            clear hbit
            go_wp2
            go_round
            case rel => exact ⟨k + 1, by omega, by go_num, HN⟩
            case measure => simp [intOf]; omega
          | true =>
            have hA := and_yes (show x < 9223372036854775808 by omega) hbit
            have HBit : Hid ((lv.getD k 0).testBit c = true) := Lib.hid (by rw [HXx.out]; exact hbit)
            have hne : ((k : Int) == (lv.length : Int)) = false := beq_eq_false_iff_ne.2 (by omega)
            clear hbit
            go_wp2
            clear hA hne
            obtain ⟨wo, rfl⟩ : ∃ wo : World, wo = wr := ⟨_, rfl⟩
            go_loopw [9, 10] (fun r i wr => ∃ j : Nat, j ≤ lv.length ∧ i = .int .i64 j ∧ Hid (OwnI .i64 wo.heap.size 2 wo wr r (nl (elp lv c k j)))) (fun _ i _ => lv.length - (intOf i).toNat)
            case atStart => exact ⟨0, Nat.zero_le _, rfl, Lib.hid (OwnI.made (bw_refl _) (Nat.le_refl _))⟩
            case round =>
              obtain ⟨j, hj, rfl, hr⟩ := hrel
              by_cases hjl : j < lv.length
              · have q1 := (hr.out.below.cell (p := ⟨g, j, none⟩) hg1).trans (HC.out j hjl)
                have hx' := hs.out.lt _ (mem_getD hjl)
                obtain ⟨y, HY⟩ : ∃ y, Hid (lv.getD j 0 = y) := ⟨_, Lib.hid rfl⟩
                rw [HY.out] at q1 hx'
                by_cases hjk : j = k
                · have HR : Hid (elp lv c k (j + 1) = elp lv c k j) := Lib.hid (elp_at hjk)
                  have heq : ((j : Int) == (k : Int)) = true := by rw [hjk]; simp
                  clear hjk
                  go_wp2
                  go_roundw
                  case rel => exact ⟨j + 1, by omega, by go_num, by rw [HR.out]; exact hr⟩
                  case measure => simp [intOf]; omega
                · have hne : ((j : Int) == (k : Int)) = false := beq_eq_false_iff_ne.2 (by omega)
                  have hxl : x < 9223372036854775808 := by omega
                  have hyl : y < 9223372036854775808 := by omega
                  have HL : Hid ((nl (elp lv c k j)).length < 1000000000000) := Lib.hid (by have := elp_len lv c k j; rw [nl_len]; omega)
                  cases hbj : y.testBit c with
                  | true =>
                    have hA := and_yes hyl hbj
                    have HR : Hid (nl (elp lv c k (j + 1)) = nl (elp lv c k j) ++ [((y ^^^ x : Nat) : Int)]) := Lib.hid (by rw [elp_x hjk (by rw [HY.out]; exact hbj), nl_snoc, HY.out, HXx.out])
                    have hX := i64_xor_nat y x hyl hxl
                    clear hjk hbj
                    go_wp2_with (at_builtin; refine wpApp tI rfl _ _ rfl rfl hr.out rfl (by decide) HL.out ?_; intro v' w7 hown7)
                    go_roundw
                    case rel => exact ⟨j + 1, by omega, by go_num, Lib.hid (by rw [HR.out]; exact hown7)⟩
                    case measure => simp [intOf]; omega
                  | false =>
                    have hA := and_no hyl hbj
                    have HR : Hid (nl (elp lv c k (j + 1)) = nl (elp lv c k j) ++ [(y : Int)]) := Lib.hid (by rw [elp_o hjk (by rw [HY.out]; exact hbj), nl_snoc, HY.out])
                    clear hjk hbj
                    go_wp2_with (at_builtin; refine wpApp tI rfl _ _ rfl rfl hr.out rfl (by decide) HL.out ?_; intro v' w7 hown7)
                    go_roundw
                    case rel => exact ⟨j + 1, by omega, by go_num, Lib.hid (by rw [HR.out]; exact hown7)⟩
                    case measure => simp [intOf]; omega
              · have hje : j = lv.length := by omega
                subst hje
                go_wp2
                go_roundw
                case rel => exact ⟨c + 1, _, by omega, by go_num, Lib.hid ⟨_, _, hr.out⟩, Lib.hid (hs.out.step hlt hkl HBit.out), Lib.hid (bw_call hb.out hr.out.below)⟩
                case measure => simp [intOf]; omega
        · have hke : k = lv.length := by omega
          subst hke
          go_wp2
          go_roundw
          case rel => exact ⟨c + 1, lv, by omega, by go_num, Lib.hid ⟨_, _, HO.out⟩, Lib.hid (hs.out.none hno.out), hb⟩
          case measure => simp [intOf]; omega
    · have hce : c = W := by omega
      subst hce
      obtain ⟨b0, X0, hown⟩ := ho.out
      obtain ⟨g, cap, rfl, hg0, hg1, hcell⟩ := hown.nat
      have HC := Lib.hid hcell
      have hlen := hs.out.len
      clear hcell hown
      go_wp2
      go_loop [11] (fun i => ∃ k : Nat, k ≤ lv.length ∧ i = .int .i64 k ∧ Hid (∀ j, j < k → lv.getD j 0 = 0)) (fun i => lv.length - (intOf i).toNat)
      case atStart => exact ⟨0, Nat.zero_le _, rfl, Lib.hid (fun j hj => by omega)⟩
      case round =>
        obtain ⟨k, hk, rfl, hz⟩ := hrel
        by_cases hkl : k < lv.length
        · have q1 := HC.out k hkl
          obtain ⟨x, HXx⟩ : ∃ x, Hid (lv.getD k 0 = x) := ⟨_, Lib.hid rfl⟩
          rw [HXx.out] at q1
          by_cases h0 : x = 0
          · subst h0
            have HN : Hid (∀ j, j < k + 1 → lv.getD j 0 = 0) := Lib.hid fun j hj => by
              by_cases e : j = k
              · subst e; exact HXx.out
              · exact hz.out j (by omega)
            go_wp2
            go_round
            case rel => exact ⟨k + 1, by omega, by go_num, HN⟩
            case measure => simp [intOf]; omega
          · have HR : Hid (solvB c es = false) := Lib.hid (hs.out.no hkl (by rw [HXx.out]; exact h0))
            have hne : ((x : Int) != 0) = true := bne_iff_ne.2 (by omega)
            go_wp2
            go_ret
            exact ⟨ret_bool HR.out.symm, hb.out⟩
        · have hke : k = lv.length := by omega
          subst hke
          have HR : Hid (solvB c es = true) := Lib.hid (hs.out.yes hz.out)
          go_wp2
          go_ret
          exact ⟨ret_bool HR.out.symm, hb.out⟩
end Go.Proofs.YtgcfibljepdkkaaDoor
