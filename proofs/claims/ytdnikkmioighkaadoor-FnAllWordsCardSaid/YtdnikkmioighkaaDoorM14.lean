/-
  Plain laws of words in a circle of bits: the numbers of words differ exactly where the words do; a set filled with words has as many elements as words only if they all differ. No Go program here.
-/
import Derived.Test.YtdnikkmioighkaaDoorB3
import Derived.Maps.OwnSet
namespace Go.Proofs.YtdnikkmioighkaaDoor
open Go.RowKit
set_option linter.unusedVariables false

/-- The number of the first k bits of the word at i. -/
def nw (s : ByteArray) (i : Nat) : Nat → Int
  | 0 => 0
  | k + 1 => 2 * nw s i k + (byt s ((i + k) % s.size) - 48)
theorem nw_bd {s : ByteArray} (hb : BitsTo s s.size) (h0 : 0 < s.size) (i : Nat) : ∀ k, 0 ≤ nw s i k ∧ nw s i k < ((2 ^ k : Nat) : Int)
  | 0 => by simp [nw]
  | k + 1 => by
    have h1 := nw_bd hb h0 i k
    have h2 := byt_bits hb (i := (i + k) % s.size) (Nat.mod_lt _ h0)
    simp only [nw, Nat.pow_succ]
    omega
theorem nw_eq {s : ByteArray} (hb : BitsTo s s.size) (h0 : 0 < s.size) (i j : Nat) : ∀ k, nw s i k = nw s j k ↔ ∀ t, t < k → byt s ((i + t) % s.size) = byt s ((j + t) % s.size)
  | 0 => by simp [nw]
  | k + 1 => by
    have ih := nw_eq hb h0 i j k
    have h1 := byt_bits hb (i := (i + k) % s.size) (Nat.mod_lt _ h0)
    have h2 := byt_bits hb (i := (j + k) % s.size) (Nat.mod_lt _ h0)
    simp only [nw]
    constructor
    · intro h t ht
      by_cases e : t = k
      · subst e; omega
      · exact ih.1 (by omega) t (by omega)
    · intro h
      have a := ih.2 (fun t ht => h t (by omega))
      have b := h k (by omega)
      rw [a, b]
/-- The word at i. -/
def wordS (s : ByteArray) (wd i : Nat) : ByteArray := (s ++ s).extract i (i + wd)
theorem circle_at (s : ByteArray) {i : Nat} (h : i < 2 * s.size) (h0 : 0 < s.size) : (s ++ s).data.toList[i]? = some (s[i % s.size]'(Nat.mod_lt _ h0)) := by
  have hl := Lib.size_eq s
  rw [ByteArray.data_append, Array.toList_append]
  by_cases hi : i < s.size
  · rw [List.getElem?_append_left (by omega), at_data s i hi]
    simp [Nat.mod_eq_of_lt hi]
  · rw [List.getElem?_append_right (by omega), at_data s _ (by omega)]
    have e : i % s.size = i - s.data.toList.length := by rw [← hl, Nat.mod_eq_sub_mod (by omega), Nat.mod_eq_of_lt (by omega)]
    simp [e]
theorem word_list (s : ByteArray) {wd i : Nat} (hi : i + wd ≤ 2 * s.size) : (wordS s wd i).data.toList = ((s ++ s).data.toList.drop i).take wd := by
  unfold wordS
  rw [ByteArray.data_extract, Array.toList_extract, List.extract_eq_take_drop, Nat.add_sub_cancel_left]
theorem word_at (s : ByteArray) {wd i t : Nat} (hi : i + wd ≤ 2 * s.size) (ht : t < wd) (h0 : 0 < s.size) : (wordS s wd i).data.toList[t]? = some (s[(i + t) % s.size]'(Nat.mod_lt _ h0)) := by
  rw [word_list s hi, List.getElem?_take_of_lt ht, List.getElem?_drop]
  exact circle_at s (by omega) h0
theorem word_len (s : ByteArray) {wd i : Nat} (hi : i + wd ≤ 2 * s.size) : (wordS s wd i).data.toList.length = wd := by
  have hl := Lib.size_eq s
  rw [word_list s hi, List.length_take, List.length_drop, ByteArray.data_append, Array.toList_append, List.length_append]
  omega
theorem word_eq {s : ByteArray} {wd i j : Nat} (h0 : 0 < s.size) (hi : i + wd ≤ 2 * s.size) (hj : j + wd ≤ 2 * s.size) :
    (wordS s wd i).data.toList = (wordS s wd j).data.toList ↔ ∀ t, t < wd → byt s ((i + t) % s.size) = byt s ((j + t) % s.size) := by
  constructor
  · intro h t ht
    have a := word_at s hi ht h0
    have b := word_at s hj ht h0
    rw [h, b] at a
    injection a with a
    rw [byt_at s (Nat.mod_lt _ h0), byt_at s (Nat.mod_lt _ h0), a]
  · intro h
    apply List.ext_getElem?
    intro t
    by_cases ht : t < wd
    · rw [word_at s hi ht h0, word_at s hj ht h0]
      have a := h t ht
      rw [byt_at s (Nat.mod_lt _ h0), byt_at s (Nat.mod_lt _ h0)] at a
      congr 1
      apply UInt8.toNat_inj.1
      omega
    · rw [List.getElem?_eq_none (by rw [word_len s hi]; omega), List.getElem?_eq_none (by rw [word_len s hj]; omega)]
/-- The first k words are all different. -/
def DistW (s : ByteArray) (wd k : Nat) : Prop := ∀ i j, i < j → j < k → nw s i wd ≠ nw s j wd
theorem DistW.zero (s : ByteArray) (wd : Nat) : DistW s wd 0 := fun i j _ h => by omega
/-- The keys of the first k words. -/
def keyW (s : ByteArray) (wd i : Nat) : Lit := .string (wordS s wd i).data.toList
def keysW (s : ByteArray) (wd k : Nat) : List Lit := (List.range k).map (keyW s wd)
theorem keysW_succ (s : ByteArray) (wd k : Nat) : keysW s wd (k + 1) = keysW s wd k ++ [keyW s wd k] := by simp [keysW, List.range_succ]
def setW (s : ByteArray) (wd k : Nat) : DataW Unit := Maps.setOf (.lit (.bool true)) (keysW s wd k)
theorem setW_succ (s : ByteArray) (wd k : Nat) : setW s wd (k + 1) = (setW s wd k).put (keyW s wd k) (.lit (.bool true)) := by
  unfold setW
  rw [keysW_succ, Maps.setOf_snoc]
theorem setW_zero (s : ByteArray) (wd : Nat) : setW s wd 0 = .map [] := by simp [setW, keysW, Maps.setOf]
theorem same_str (a b : List UInt8) : (Lit.string a).sameKey (.string b) = decide (a = b) := by
  show (a == b) = decide (a = b)
  rw [Bool.eq_iff_iff, beq_iff_eq, decide_eq_true_eq]
/-- The different ones among the first k words. -/
def accW (s : ByteArray) (wd k : Nat) : List Lit := (keysW s wd k).foldl Maps.addKey []
theorem accW_succ (s : ByteArray) (wd k : Nat) : accW s wd (k + 1) = Maps.addKey (accW s wd k) (keyW s wd k) := by simp [accW, keysW_succ, List.foldl_append]
theorem accW_mem {s : ByteArray} {wd : Nat} (x : Lit) : ∀ k, x ∈ accW s wd k → ∃ i, i < k ∧ x = keyW s wd i
  | 0, h => by simp [accW, keysW] at h
  | k + 1, h => by
    rw [accW_succ, Maps.addKey] at h
    split at h
    · obtain ⟨i, hi, e⟩ := accW_mem x k h
      exact ⟨i, by omega, e⟩
    · rcases List.mem_append.1 h with h | h
      · obtain ⟨i, hi, e⟩ := accW_mem x k h
        exact ⟨i, by omega, e⟩
      · exact ⟨k, by omega, by simpa using h⟩
theorem accW_has {s : ByteArray} {wd : Nat} : ∀ k i, i < k → ∃ x ∈ accW s wd k, x.sameKey (keyW s wd i) = true
  | 0, i, h => by omega
  | k + 1, i, h => by
    rw [accW_succ, Maps.addKey]
    by_cases e : i = k
    · subst e
      split
      · rename_i h'
        obtain ⟨x, hx, h2⟩ := List.any_eq_true.1 h'
        exact ⟨x, hx, h2⟩
      · exact ⟨_, List.mem_append_right _ (List.mem_singleton.2 rfl), by simp [keyW, same_str]⟩
    · obtain ⟨x, hx, h2⟩ := accW_has k i (by omega)
      refine ⟨x, ?_, h2⟩
      split
      · exact hx
      · exact List.mem_append_left _ hx
theorem accW_len {s : ByteArray} {wd : Nat} (hb : BitsTo s s.size) (h0 : 0 < s.size) : ∀ k, (∀ i, i < k → i + wd ≤ 2 * s.size) → (accW s wd k).length ≤ k ∧ ((accW s wd k).length = k ↔ DistW s wd k)
  | 0, _ => ⟨by simp [accW, keysW], by simp [accW, keysW]; exact DistW.zero s wd⟩
  | k + 1, hk => by
    have ih := accW_len hb h0 k (fun i hi => hk i (by omega))
    have key : ∀ i, i < k → ((keyW s wd i).sameKey (keyW s wd k) = true ↔ nw s i wd = nw s k wd) := fun i hi => by
      rw [keyW, keyW, same_str, decide_eq_true_eq, word_eq h0 (hk i (by omega)) (hk k (by omega)), nw_eq hb h0]
    rw [accW_succ, Maps.addKey]
    split
    · rename_i h
      obtain ⟨x, hx, h2⟩ := List.any_eq_true.1 h
      obtain ⟨i, hi, rfl⟩ := accW_mem x k hx
      refine ⟨by omega, ⟨fun e => by omega, fun hd => ?_⟩⟩
      exact absurd ((key i hi).1 h2) (hd i k hi (by omega))
    · rename_i h
      rw [List.length_append, List.length_singleton]
      refine ⟨by omega, ⟨fun e => ?_, fun hd => ?_⟩⟩
      · have hd := ih.2.1 (by omega)
        intro i j hij hj
        by_cases ej : j = k
        · subst ej
          intro en
          apply h
          obtain ⟨x, hx, h2⟩ := accW_has (s := s) (wd := wd) j i hij
          obtain ⟨i', hi', rfl⟩ := accW_mem x j hx
          refine List.any_eq_true.2 ⟨_, hx, ?_⟩
          have h3 := (key i hij).2 en
          rw [keyW, keyW, same_str, decide_eq_true_eq] at h2 h3 ⊢
          exact h2.trans h3
        · exact hd i j hij (by omega)
      · have := ih.2.2 (fun i j hij hj => hd i j hij (by omega))
        omega
theorem setW_size {s : ByteArray} {wd k : Nat} : Maps.size (setW s wd k) = ((accW s wd k).length : Nat) := by
  unfold setW accW
  have h : ∀ x ∈ keysW s wd k, WideAt.IsKeyLit x := fun x hx => by
    obtain ⟨i, _, rfl⟩ := List.mem_map.1 hx
    trivial
  rw [Maps.size_setOf _ _ h]
end Go.Proofs.YtdnikkmioighkaaDoor
