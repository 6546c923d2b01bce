/-
  Decimal: the reference's text of a number is the library's, for every int64. No condition; the program's goes by the shelf's contract of strconv.FormatInt, which asks the table of the powers of ten.
-/
import Derived.Test.YtcmmcffglmcegaaDoorReg
import Derived.Lib.ItoaNum
import Derived.Lib.ItoaLen
namespace Go.Proofs.YtcmmcffglmcegaaDoor
open Go.RowKit
set_option linter.unusedVariables false

theorem tBd : SliceT Tryd.prog 43 5 .u8 1 := ⟨Tryd.underlying43, Tryd.underlying5, info_parts (by kernel_rfl)⟩

/-- The decimal digits of a number, the least one first; none for 0. -/
def dl (m : Nat) : List Int := if h : m = 0 then [] else (48 + (m % 10 : Nat) : Int) :: dl (m / 10)
termination_by m
decreasing_by omega
theorem dl_zero : dl 0 = [] := by rw [dl]; simp
theorem dl_pos {m : Nat} (h : m ≠ 0) : dl m = (48 + (m % 10 : Nat) : Int) :: dl (m / 10) := by rw [dl, dif_neg h]
theorem dl_len : ∀ (k m : Nat), m < 10 ^ k → (dl m).length ≤ k
  | 0, m, h => by have : m = 0 := by simp at h; omega
                  subst this; simp [dl_zero]
  | k + 1, m, h => by
    by_cases h0 : m = 0
    · subst h0; simp [dl_zero]
    · rw [dl_pos h0, List.length_cons]
      have := dl_len k (m / 10) (by rw [Nat.pow_succ] at h; omega)
      omega
theorem toU8 (a : Nat) (h : a < 10) : UInt8.ofNat ((48 + (a : Int)).toNat) = UInt8.ofNat (48 + a) := by congr 1
theorem dl_rev (m : Nat) (h : m ≠ 0) : (dl m).reverse.map (fun n => UInt8.ofNat n.toNat) = Lib.decDigits m := by
  induction m using Nat.strongRecOn with
  | _ m ih =>
    rw [dl_pos h, List.reverse_cons, List.map_append, Lib.decDigits]
    by_cases h1 : m < 10
    · rw [dif_pos h1, show m / 10 = 0 by omega, dl_zero]
      simp only [List.reverse_nil, List.map_nil, List.nil_append, List.map_cons, List.cons.injEq, and_true]
      rw [toU8 _ (by omega), show m % 10 = m by omega]
    · rw [dif_neg h1, ih (m / 10) (by omega) (by omega)]
      simp only [List.map_cons, List.map_nil, List.append_cancel_left_eq, List.cons.injEq, and_true]
      rw [toU8 _ (by omega)]
/-- The text's numbers, backwards. -/
def dx (n : Int) : List Int := if n < 0 then dl n.natAbs ++ [45] else dl n.natAbs
theorem dx_text {n : Int} (h : n ≠ 0) : strOfNums (dx n).reverse = ⟨(Lib.itoa n).toArray⟩ := by
  unfold strOfNums
  congr 2
  unfold dx Lib.itoa
  split
  · rw [List.reverse_append, List.map_append, dl_rev _ (by omega)]
    rfl
  · rw [dl_rev _ (by omega)]
    congr 1
    omega
theorem dx_zero : (⟨#[48]⟩ : ByteArray) = ⟨(Lib.itoa 0).toArray⟩ := by
  have : Lib.itoa 0 = [48] := by
    unfold Lib.itoa
    rw [if_neg (by omega), Lib.decDigits_one (by decide)]
    rfl
  rw [this]
/-- Decimal's text. -/
def decS (n : Int) : ByteArray := ⟨(Lib.itoa n).toArray⟩
theorem decS_size (n : Int) (h0 : -9223372036854775808 ≤ n) (h1 : n ≤ 9223372036854775807) : (decS n).size ≤ 21 := by
  have := Lib.itoa_length_le n h0 h1
  show (decS n).data.size ≤ 21
  simpa [decS] using this

set_option maxRecDepth 100000 in
theorem l01Dec_any (n : Int) (w : World) (n0 : -9223372036854775808 ≤ n) (n1 : n ≤ 9223372036854775807) :
    Calls Tryd.prog 67 #[.int .i64 n] w fun e w' => e = .returned (.string (decS n)) ∧ Below w.heap.size w w' := by
  by_cases hz : n = 0
  · subst hz
    have e : decS 0 = ⟨#[48]⟩ := dx_zero.symm
    rw [e]; clear e
    go_enter Tryd.func67, Tryd.ntmps67
    go_wp2
    go_ret
    exact ⟨rfl, bw_refl _⟩
  · have e : decS n = strOfNums (dx n).reverse := (dx_text hz).symm
    rw [e]; clear e
    have hz1 : (n == 0) = false := beq_eq_false_iff_ne.2 hz
    have HN : Hid ((dl n.natAbs).length ≤ 20) := Lib.hid (dl_len 20 _ (by omega))
    go_enter Tryd.func67, Tryd.ntmps67
    go_wp2
    go_loopw [3, 4] (fun v i wr => ∃ (r : Int) (xs : List Int), i = .int .i64 r ∧ Hid ((-9223372036854775808 ≤ r ∧ r ≤ 9223372036854775807) ∧ xs ++ dl r.natAbs = dl n.natAbs) ∧ Hid (OwnI .u8 w.heap.size 5 w wr v xs)) (fun _ i _ => (intOf i).natAbs)
    case atStart => exact ⟨n, [], rfl, Lib.hid ⟨⟨n0, n1⟩, rfl⟩, Lib.hid (OwnI.made (bw_refl _) (Nat.le_refl _))⟩
    case round =>
      obtain ⟨r, xs, rfl, HR, ho⟩ := hrel
      have b0 := HR.out.1
      by_cases hr : r = 0
      · subst hr
        have hr1 : ((0 : Int) != 0) = false := rfl
        have hxs : xs = dl n.natAbs := by have := HR.out.2; simpa [dl_zero] using this
        subst hxs
        clear HR
        obtain ⟨L, HL⟩ : ∃ L, Hid ((dx n).length = L) := ⟨_, Lib.hid rfl⟩
        have hL : L ≤ 21 := by
          have := HN.out
          rw [← HL.out]; unfold dx; split
          · simp; omega
          · omega
        by_cases hneg : n < 0
        · have hdx : Hid (dx n = dl n.natAbs ++ [45]) := Lib.hid (by simp [dx, hneg])
          have HLt : Hid ((dl n.natAbs).length < 1000000000000) := Lib.hid (by have := HN.out; omega)
          go_wp2_with (at_builtin; refine wpApp1 tBd rfl _ _ rfl rfl ho.out rfl (by decide) HLt.out L (by rw [← HL.out, hdx.out]; simp) ?_; intro g cap w2 hown2; refine Hid.out ?_)
          refine Lib.hid ?_
          rw [← hdx.out] at hown2
          have HD : Hid (OwnI .u8 w.heap.size 5 w w2 (.slice (some ⟨g, 0, none⟩) L cap) (dx n)) := Lib.hid hown2
          clear hown2
          go_wp2
          go_loopw [6, 7] (fun v i wr => ∃ m : Nat, m ≤ L ∧ i = .int .i64 ((m : Int) - 1) ∧ Hid (OwnI .u8 w2.heap.size 5 w2 wr v ((dx n).drop m).reverse)) (fun _ i _ => (intOf i + 1).toNat)
          case atStart => exact ⟨L, Nat.le_refl _, rfl, Lib.hid (by rw [← HL.out, List.drop_length]; exact OwnI.made (bw_refl _) (Nat.le_refl _))⟩
          case round =>
            obtain ⟨m, hm, rfl, h6⟩ := hrel
            match m, hm, h6 with
            | 0, hm, h6 =>
              have HF := Lib.hid h6.out.below
              have hcv := OwnI.conv tBd h6.out Tryd.underlying9
              rw [List.drop_zero] at hcv
              go_wp2
              go_ret
              exact ⟨rfl, bw_call HD.out.below HF.out⟩
            | j + 1, hm, h6 =>
              have ej : ((j + 1 : Nat) : Int) - 1 = (j : Int) := by omega
              rw [ej]
              clear ej
              have hjl : j < (dx n).length := by rw [HL.out]; omega
              obtain ⟨x, HX⟩ : ∃ x, Hid ((dx n).getD j 0 = x) := ⟨_, Lib.hid rfl⟩
              have q1 : wr.cell? ⟨g, j, none⟩ = some (.int .u8 x) := by
                obtain ⟨g', cap', hv, _, hlt, _, _, hc, _⟩ := HD.out.cell
                simp only [Value.slice.injEq, Option.some.injEq, Addr.mk.injEq, and_true] at hv
                obtain ⟨rfl, -, -⟩ := hv
                rw [← HX.out]
                exact (h6.out.below.cell (p := ⟨g, j, none⟩) hlt).trans (hc j hjl)
              have q2 : wr.frozen? ⟨g, j, none⟩ = false := by
                obtain ⟨g', cap', hv, _, hlt, _, _, _, hf⟩ := HD.out.cell
                simp only [Value.slice.injEq, Option.some.injEq, Addr.mk.injEq, and_true] at hv
                obtain ⟨rfl, -, -⟩ := hv
                exact (h6.out.below.frozen (p := ⟨g, j, none⟩) hlt).trans (hf j)
              have HS : Hid (((dx n).drop j).reverse = ((dx n).drop (j + 1)).reverse ++ [x]) := Lib.hid (by
                rw [List.drop_eq_getElem_cons hjl, List.reverse_cons, ← HX.out]
                simp [List.getD, hjl])
              have HL6 : Hid ((((dx n).drop (j + 1)).reverse).length < 1000000000000) := Lib.hid (by simp; have := HL.out; omega)
              go_wp2_with (at_builtin; refine wpApp tBd rfl _ _ rfl rfl h6.out rfl (by decide) HL6.out ?_; intro v' w7 hown7)
              go_roundw
              case rel => exact ⟨j, by omega, rfl, Lib.hid (by rw [HS.out]; exact hown7)⟩
              case measure => simp [intOf]; try omega
        · have hdx : dx n = dl n.natAbs := by simp [dx, hneg]
          obtain ⟨g, cap, hv, _⟩ := ho.out.cell
          subst hv
          rw [← hdx, HL.out] at ho ⊢
          clear hdx
          obtain ⟨w2, hw2⟩ : ∃ w2, w2 = wr := ⟨_, rfl⟩
          subst hw2
          have hown2 := ho.out
          clear ho
          have HD : Hid (OwnI .u8 w.heap.size 5 w w2 (.slice (some ⟨g, 0, none⟩) L cap) (dx n)) := Lib.hid hown2
          clear hown2
          go_wp2
          go_loopw [6, 7] (fun v i wq => ∃ m : Nat, m ≤ L ∧ i = .int .i64 ((m : Int) - 1) ∧ Hid (OwnI .u8 w2.heap.size 5 w2 wq v ((dx n).drop m).reverse)) (fun _ i _ => (intOf i + 1).toNat)
          case atStart => exact ⟨L, Nat.le_refl _, rfl, Lib.hid (by rw [← HL.out, List.drop_length]; exact OwnI.made (bw_refl _) (Nat.le_refl _))⟩
          case round =>
            obtain ⟨m, hm, rfl, h6⟩ := hrel
            match m, hm, h6 with
            | 0, hm, h6 =>
              have HF := Lib.hid h6.out.below
              have hcv := OwnI.conv tBd h6.out Tryd.underlying9
              rw [List.drop_zero] at hcv
              go_wp2
              go_ret
              exact ⟨rfl, bw_call HD.out.below HF.out⟩
            | j + 1, hm, h6 =>
              have ej : ((j + 1 : Nat) : Int) - 1 = (j : Int) := by omega
              rw [ej]
              clear ej
              have hjl : j < (dx n).length := by rw [HL.out]; omega
              obtain ⟨x, HX⟩ : ∃ x, Hid ((dx n).getD j 0 = x) := ⟨_, Lib.hid rfl⟩
              have q1 : wr.cell? ⟨g, j, none⟩ = some (.int .u8 x) := by
                obtain ⟨g', cap', hv, _, hlt, _, _, hc, _⟩ := HD.out.cell
                simp only [Value.slice.injEq, Option.some.injEq, Addr.mk.injEq, and_true] at hv
                obtain ⟨rfl, -, -⟩ := hv
                rw [← HX.out]
                exact (h6.out.below.cell (p := ⟨g, j, none⟩) hlt).trans (hc j hjl)
              have q2 : wr.frozen? ⟨g, j, none⟩ = false := by
                obtain ⟨g', cap', hv, _, hlt, _, _, _, hf⟩ := HD.out.cell
                simp only [Value.slice.injEq, Option.some.injEq, Addr.mk.injEq, and_true] at hv
                obtain ⟨rfl, -, -⟩ := hv
                exact (h6.out.below.frozen (p := ⟨g, j, none⟩) hlt).trans (hf j)
              have HS : Hid (((dx n).drop j).reverse = ((dx n).drop (j + 1)).reverse ++ [x]) := Lib.hid (by
                rw [List.drop_eq_getElem_cons hjl, List.reverse_cons, ← HX.out]
                simp [List.getD, hjl])
              have HL6 : Hid ((((dx n).drop (j + 1)).reverse).length < 1000000000000) := Lib.hid (by simp; have := HL.out; omega)
              go_wp2_with (at_builtin; refine wpApp tBd rfl _ _ rfl rfl h6.out rfl (by decide) HL6.out ?_; intro v' w7 hown7)
              go_roundw
              case rel => exact ⟨j, by omega, rfl, Lib.hid (by rw [HS.out]; exact hown7)⟩
              case measure => simp [intOf]; try omega
      · have hr1 : (r != 0) = true := bne_iff_ne.2 hr
        obtain ⟨t, HT⟩ : ∃ t, Hid (r.tmod 10 = t) := ⟨_, Lib.hid rfl⟩
        obtain ⟨q, HQ⟩ : ∃ q, Hid (r.tdiv 10 = q) := ⟨_, Lib.hid rfl⟩
        have ht : r.tmod 10 = t := HT.out
        have hq : r.tdiv 10 = q := HQ.out
        have ta : t.natAbs = r.natAbs % 10 := by rw [← HT.out]; simp
        have qa : q.natAbs = r.natAbs / 10 := by rw [← HQ.out, Int.natAbs_tdiv]; rfl
        have HTA := Lib.hid ta
        have HQA := Lib.hid qa
        have tb : -9 ≤ t ∧ t ≤ 9 := by omega
        have qb : -922337203685477580 ≤ q ∧ q ≤ 922337203685477580 := by omega
        have HLx : Hid (xs.length < 1000000000000) := Lib.hid (by
          have h1 := congrArg List.length HR.out.2
          rw [List.length_append] at h1
          have := HN.out; omega)
        have HE : Hid (∀ d : Int, d = (t.natAbs : Nat) → (xs ++ [48 + d]) ++ dl q.natAbs = dl n.natAbs) := Lib.hid fun d hd => by
          rw [← HR.out.2, dl_pos (show r.natAbs ≠ 0 by omega), hd, HTA.out, HQA.out]
          simp
        clear ta qa
        by_cases htn : t < 0
        · have u1 : IntKind.u8.wrap (48 + -t) = 48 + -t := IntWalk.u8_in _ (by omega)
          go_wp2_with (at_builtin; refine wpApp tBd rfl _ _ rfl rfl ho.out rfl (by decide) HLx.out ?_; intro v' w7 hown7)
          go_roundw
          case rel => exact ⟨q, _, rfl, Lib.hid ⟨by omega, HE.out _ (by omega)⟩, Lib.hid hown7⟩
          case measure => simp only [intOf]; have := HQA.out; omega
        · have u1 : IntKind.u8.wrap (48 + t) = 48 + t := IntWalk.u8_in _ (by omega)
          go_wp2_with (at_builtin; refine wpApp tBd rfl _ _ rfl rfl ho.out rfl (by decide) HLx.out ?_; intro v' w7 hown7)
          go_roundw
          case rel => exact ⟨q, _, rfl, Lib.hid ⟨by omega, HE.out _ (by omega)⟩, Lib.hid hown7⟩
          case measure => simp only [intOf]; have := HQA.out; omega
end Go.Proofs.YtcmmcffglmcegaaDoor
