/-
  Plain laws of a text cut at its commas: the pieces from a place on. No condition; no Go program here.
-/
import Derived.Test.YtcmmcffglmcegaaDoorM10
import Derived.Test.YtcmmcffglmcegaaDoorRe
import Derived.Lib.SplitLaws
import Derived.Lib.IndexBytes
namespace Go.Proofs.YtcmmcffglmcegaaDoor
open Go.RowKit
set_option linter.unusedVariables false

theorem index_ch (c : UInt8) : ∀ (l : List UInt8), (c ∉ l → Lib.index l [c] = -1) ∧ (∀ a b : List UInt8, l = a ++ c :: b → c ∉ a → Lib.index l [c] = (a.length : Nat))
  | [] => ⟨fun _ => by simp [Lib.index], fun a b h => by simp at h⟩
  | x :: l => by
    have ih := index_ch c l
    have hp : ([c] : List UInt8).isPrefixOf (x :: l) = (x == c) := by
      simp only [List.isPrefixOf, Bool.and_true]
      by_cases h : x = c
      · subst h; rfl
      · have h' : ¬ c = x := fun e => h e.symm
        rw [beq_eq_false_iff_ne.2 h', beq_eq_false_iff_ne.2 h]
    constructor
    · intro hn
      have hx : ¬ x = c := fun e => hn (by rw [e]; exact List.mem_cons_self)
      have hl := ih.1 (fun h => hn (List.mem_cons_of_mem _ h))
      rw [Lib.index, hp]
      simp [hx, hl]
    · intro a b h hn
      cases a with
      | nil =>
        simp only [List.nil_append, List.cons.injEq] at h
        rw [Lib.index, hp]
        simp [h.1]
      | cons y a =>
        simp only [List.cons_append, List.cons.injEq] at h
        have hx : ¬ x = c := fun e => hn (by rw [← h.1, e]; exact List.mem_cons_self)
        have hl := ih.2 a b h.2 (fun h' => hn (List.mem_cons_of_mem _ h'))
        rw [Lib.index, hp]
        simp [hx, hl]
theorem bytes_inj {a b : ByteArray} (h : a.data.toList = b.data.toList) : a = b := by
  have h2 : a.data = b.data := Array.toList_inj.1 h
  cases a; cases b; simp_all
theorem ext_list (s : ByteArray) (a b : Nat) : (s.extract a b).data.toList = (s.data.toList.drop a).take (b - a) := by
  rw [ByteArray.data_extract, Array.toList_extract, List.extract_eq_take_drop]
def comma : ByteArray := ⟨#[44]⟩
/-- The pieces of a text from a place on. -/
def AP (s : ByteArray) (f : Nat) : List ByteArray := Lib.splitB comma 0 (Lib.countB (s.extract f s.size) comma) (s.extract f s.size)
theorem AP_zero (s : ByteArray) : AP s 0 = Lib.splitB comma 0 (Lib.countB s comma) s := by
  have e : s.extract 0 s.size = s := by apply bytes_inj; simp
  rw [AP, e]
theorem AP_comma {s : ByteArray} {f i : Nat} (hf : f ≤ i) (hi : i < s.size) (hno : ∀ j (hj : j < s.size), f ≤ j → j < i → s[j].toNat ≠ 44) (hc : s[i].toNat = 44) : AP s f = s.extract f i :: AP s (i + 1) := by
  have hl := Lib.size_eq s
  have hix : Lib.indexB (s.extract f s.size) comma = ((i - f : Nat) : Int) := by
    have hlist : (s.extract f s.size).data.toList = (s.extract f i).data.toList ++ 44 :: s.data.toList.drop (i + 1) := by
      rw [ext_list, ext_list, List.take_of_length_le (by simp)]
      have h2 := at_data s i hi
      have h3 : s[i] = 44 := UInt8.toNat_inj.1 hc
      rw [h3] at h2
      have hil : i < s.data.toList.length := by omega
      rw [List.getElem?_eq_getElem hil] at h2
      injection h2 with h2
      have e : s.data.toList.drop i = 44 :: s.data.toList.drop (i + 1) := by rw [List.drop_eq_getElem_cons hil, h2]
      rw [← e]
      have e2 : s.data.toList.drop i = (s.data.toList.drop f).drop (i - f) := by rw [List.drop_drop]; congr 1; omega
      rw [e2, List.take_append_drop]
    have hnm : (44 : UInt8) ∉ (s.extract f i).data.toList := fun hm => by
      rw [ext_list] at hm
      obtain ⟨t, ht, e⟩ := List.getElem_of_mem hm
      have htl : t < i - f := by rw [List.length_take] at ht; omega
      rw [List.getElem_take, List.getElem_drop] at e
      have hs : f + t < s.size := by omega
      have h2 := at_data s (f + t) hs
      rw [List.getElem?_eq_getElem (by omega), e] at h2
      injection h2 with h2
      exact hno (f + t) hs (by omega) (by omega) (by rw [← h2]; rfl)
    have := (index_ch 44 _).2 _ _ hlist hnm
    have hlen : (s.extract f i).data.toList.length = i - f := by rw [ext_list, List.length_take, List.length_drop]; omega
    rw [hlen] at this
    unfold Lib.indexB
    exact this
  have hcnt := Lib.countB_hit (s.extract f s.size) comma (i - f) (by decide) hix
  have e1 : (s.extract f s.size).extract (i - f + comma.size) (s.extract f s.size).size = s.extract (i + 1) s.size := by
    apply bytes_inj
    have hsz : (s.extract f s.size).size = s.size - f := by rw [ByteArray.size_extract]; omega
    rw [ext_list, ext_list, ext_list, hsz]
    have c1 : comma.size = 1 := rfl
    rw [c1, List.take_of_length_le (l := s.data.toList.drop f) (by simp), List.drop_drop, show f + (i - f + 1) = i + 1 by omega, List.take_of_length_le (by simp; omega), List.take_of_length_le (by simp)]
  have e2 : (s.extract f s.size).extract 0 (i - f + 0) = s.extract f i := by
    apply bytes_inj
    rw [ext_list, ext_list, ext_list, List.take_of_length_le (l := s.data.toList.drop f) (by simp)]
    simp
  rw [AP, hcnt, Nat.add_comm 1, Lib.splitB_hit _ _ _ _ _ hix, e1, e2]
  rfl
theorem AP_last {s : ByteArray} {f : Nat} (hf : f ≤ s.size) (hno : ∀ j (hj : j < s.size), f ≤ j → s[j].toNat ≠ 44) : AP s f = [s.extract f s.size] := by
  have hix : Lib.indexB (s.extract f s.size) comma = -1 := by
    have hnm : (44 : UInt8) ∉ (s.extract f s.size).data.toList := fun hm => by
      rw [ext_list] at hm
      obtain ⟨t, ht, e⟩ := List.getElem_of_mem hm
      have htl : t < s.size - f := by rw [List.length_take] at ht; omega
      rw [List.getElem_take, List.getElem_drop] at e
      have hs : f + t < s.size := by omega
      have h2 := at_data s (f + t) hs
      rw [List.getElem?_eq_getElem (by have := Lib.size_eq s; omega), e] at h2
      injection h2 with h2
      exact hno (f + t) hs (by omega) (by rw [← h2]; rfl)
    unfold Lib.indexB
    exact (index_ch 44 _).1 hnm
  exact Lib.splitB_miss _ _ _ _ hix
theorem split_size (sep : ByteArray) : ∀ (k : Nat) (s : ByteArray), ∀ q ∈ Lib.splitB sep 0 k s, q.size ≤ s.size
  | 0, s, q, hq => by
    rw [Lib.splitB_zero] at hq
    rw [List.mem_singleton.1 hq]; exact Nat.le_refl _
  | k + 1, s, q, hq => by
    rcases Lib.indexB_cases s sep with hix | ⟨i, hix, hroom⟩
    · rw [Lib.splitB_miss sep 0 _ s hix] at hq
      rw [List.mem_singleton.1 hq]; exact Nat.le_refl _
    · rw [Lib.splitB_hit sep 0 k s i hix] at hq
      rcases List.mem_cons.1 hq with h | h
      · rw [h, ByteArray.size_extract]; omega
      · have := split_size sep k _ q h
        rw [ByteArray.size_extract] at this
        omega
theorem AP_size (s : ByteArray) (f : Nat) (q : ByteArray) (hq : q ∈ AP s f) : q.size ≤ s.size := by
  have := split_size comma _ _ q hq
  rw [ByteArray.size_extract] at this
  omega
open Classical in
/-- All pieces are numbers, and there are not too many. -/
noncomputable def rlB (s : ByteArray) : Bool := decide (s = ⟨#[110, 111, 110, 101]⟩) || (decide ((AP s 0).length ≤ 64) && decide (∀ p ∈ AP s 0, rdB 1000000000000000 p = true))
noncomputable def rlL (s : ByteArray) : List Int := if s = ⟨#[110, 111, 110, 101]⟩ then [] else if rlB s = true then (AP s 0).map (rdV 1000000000000000) else []
theorem rl_none {s : ByteArray} (h : s = ⟨#[110, 111, 110, 101]⟩) : rlB s = true ∧ rlL s = [] := by simp [rlB, rlL, h]
theorem rl_all {s : ByteArray} (h : s ≠ ⟨#[110, 111, 110, 101]⟩) (h64 : (AP s 0).length ≤ 64) (hall : ∀ p ∈ AP s 0, rdB 1000000000000000 p = true) : rlB s = true ∧ rlL s = (AP s 0).map (rdV 1000000000000000) := by
  have e : rlB s = true := by
    simp only [rlB, h, h64, decide_false, decide_true, Bool.false_or, Bool.true_and, decide_eq_true_eq]
    exact hall
  exact ⟨e, by rw [rlL, if_neg h, if_pos e]⟩
theorem rl_bad {s p : ByteArray} (h : s ≠ ⟨#[110, 111, 110, 101]⟩) (hp : p ∈ AP s 0) (hb : rdB 1000000000000000 p = false) : rlB s = false ∧ rlL s = [] := by
  have e : rlB s = false := by
    have : ¬ ∀ p ∈ AP s 0, rdB 1000000000000000 p = true := fun g => by rw [g p hp] at hb; cases hb
    simp only [rlB, h, this, decide_false, Bool.false_or, Bool.and_false]
  exact ⟨e, by rw [rlL, if_neg h, e]; rfl⟩
theorem rl_many {s : ByteArray} (h : s ≠ ⟨#[110, 111, 110, 101]⟩) (hm : 64 < (AP s 0).length) : rlB s = false ∧ rlL s = [] := by
  have e : rlB s = false := by
    have : ¬ (AP s 0).length ≤ 64 := by omega
    simp only [rlB, h, this, decide_false, Bool.false_or, Bool.false_and]
  exact ⟨e, by rw [rlL, if_neg h, e]; rfl⟩
theorem rlL_len (s : ByteArray) : (rlL s).length < 1000000000000 := by
  unfold rlL
  split
  · simp
  · split
    · rename_i h1 h2
      simp only [rlB, h1, decide_false, Bool.false_or, Bool.and_eq_true, decide_eq_true_eq] at h2
      rw [List.length_map]; omega
    · simp
end Go.Proofs.YtcmmcffglmcegaaDoor
