/-
  Plain laws of bits: the digits of the number of bits are the bits; the exclusive or undoes itself; the runs' lengths add up; the parity of the common ones. Conditions stand in each lemma; no Go program here.
-/
import Derived.Test.YtdnikkmioighkaaDoorB5
import Derived.Test.YtdnikkmioighkaaDoorC5
import Derived.Test.YtdnikkmioighkaaDoorM2
namespace Go.Proofs.YtdnikkmioighkaaDoor
open Go.RowKit
set_option linter.unusedVariables false

theorem numL_shift {s : ByteArray} (hb : BitsTo s s.size) (k : Nat) : ∀ m, k + m ≤ s.size → numL s (k + m) / 2 ^ m = numL s k
  | 0, _ => by simp
  | m + 1, h => by
    have h1 := numL_shift hb k m (by omega)
    have h2 := byt_bits hb (i := k + m) (by omega)
    have e : numL s (k + (m + 1)) = 2 * numL s (k + m) + (byt s (k + m) - 48) := rfl
    have h0 := (numL_bd hb (k + m) (by omega)).1
    rw [e, show (2 : Int) ^ (m + 1) = 2 * 2 ^ m by rw [Int.pow_succ]; omega, ← Int.ediv_ediv_of_nonneg (by omega)]
    rw [show (2 * numL s (k + m) + (byt s (k + m) - 48)) / 2 = numL s (k + m) by omega]
    exact h1
theorem numL_digit {s : ByteArray} (hb : BitsTo s s.size) {j : Nat} (hj : j < s.size) : dg (numL s s.size) (s.size - 1 - j) = byt s j := by
  have h := numL_shift hb (j + 1) (s.size - 1 - j) (by omega)
  rw [show j + 1 + (s.size - 1 - j) = s.size by omega] at h
  unfold dg
  rw [h]
  have e : numL s (j + 1) = 2 * numL s j + (byt s j - 48) := rfl
  have := byt_bits hb hj
  rw [e]; omega
/-- A text's numbers. -/
def nums (s : ByteArray) : List Int := (List.range s.size).map (byt s)
theorem nums_len (s : ByteArray) : (nums s).length = s.size := by simp [nums]
theorem nums_text (s : ByteArray) : strOfNums (nums s) = s := by
  have : (nums s).map (fun n => UInt8.ofNat n.toNat) = s.data.toList := by
    apply List.ext_getElem
    · simp [nums]
    · intro i h1 h2
      have hi : i < s.size := by simpa [nums] using h1
      have e := at_data s i hi
      rw [List.getElem?_eq_getElem h2] at e
      rw [Option.some.inj e]
      simp [nums, byt_at s hi]
  unfold strOfNums
  rw [this]
theorem digs_nums {s : ByteArray} (hb : BitsTo s s.size) : digs (numL s s.size) s.size s.size = nums s := by
  unfold digs nums
  apply List.map_congr_left
  intro j hj
  exact numL_digit hb (by simpa using hj)
theorem boB_num {s : ByteArray} (hb : BitsTo s s.size) (h60 : s.size ≤ 60) : boB (numL s s.size) s.size = true ∧ boS (numL s s.size) s.size = s := by
  have h := numL_bd hb s.size (Nat.le_refl _)
  have h1 : boB (numL s s.size) s.size = true := by
    have : inR (s.size : Int) 0 60 = true := inR_mk (by omega) (by omega)
    have h2 : inR (numL s s.size) 0 (sh s.size - 1) = true := inR_mk h.1 (by
      show numL s s.size ≤ 2 ^ ((s.size : Int).toNat) - 1
      rw [Int.toNat_natCast]; omega)
    simp [boB, this, h2]
  refine ⟨h1, ?_⟩
  rw [boS, if_pos h1, Int.toNat_natCast, digs_nums hb, nums_text]

theorem byt_nums {xs : List Int} (hx : ∀ x ∈ xs, x = 48 ∨ x = 49) {i : Nat} (hi : i < xs.length) : byt (strOfNums xs) i = xs.getD i 0 := by
  have hs : i < (strOfNums xs).size := by rw [strOfNums_size]; exact hi
  rw [byt_at _ hs]
  have e : (strOfNums xs)[i] = UInt8.ofNat (xs.getD i 0).toNat := by
    have := at_data (strOfNums xs) i hs
    rw [strOfNums_data, List.getElem?_map, List.getElem?_eq_getElem hi] at this
    simp only [Option.map_some, Option.some.injEq] at this
    rw [← this]
    simp [List.getD, hi]
  rw [e]
  have hm : xs.getD i 0 ∈ xs := by
    rw [List.getD_eq_getElem?_getD, List.getElem?_eq_getElem hi]; exact List.getElem_mem _
  rcases hx _ hm with h | h <;> rw [h] <;> rfl
theorem bits_nums {xs : List Int} (hx : ∀ x ∈ xs, x = 48 ∨ x = 49) : BitsTo (strOfNums xs) (strOfNums xs).size := fun j hj _ => by
  have hl : j < xs.length := by rw [strOfNums_size] at hj; exact hj
  have h := byt_nums hx hl
  rw [byt_at _ hj] at h
  have hm : xs.getD j 0 ∈ xs := by
    rw [List.getD_eq_getElem?_getD, List.getElem?_eq_getElem hl]; exact List.getElem_mem _
  rcases hx _ hm with h' | h' <;> rw [h'] at h
  · left; omega
  · right; omega
theorem xorL_mem (a b : ByteArray) (k : Nat) : ∀ x ∈ xorL a b k, x = 48 ∨ x = 49 := fun x hx => by
  obtain ⟨i, _, rfl⟩ := List.mem_map.1 hx
  exact xr_bd _ _
theorem xorL_at (a b : ByteArray) {k i : Nat} (hi : i < k) : (xorL a b k).getD i 0 = xr (byt a i) (byt b i) := by
  simp [xorL, List.getD, hi]
theorem xr_back {x y : Int} (hx : x = 48 ∨ x = 49) (hy : y = 48 ∨ y = 49) : xr (xr x y) y = x := by
  rcases hx with rfl | rfl <;> rcases hy with rfl | rfl <;> decide
theorem xor_back {a b : ByteArray} (ha : BitsTo a a.size) (hb : BitsTo b b.size) (hl : b.size = a.size) : strOfNums (xorL (strOfNums (xorL a b a.size)) b a.size) = a := by
  have e : xorL (strOfNums (xorL a b a.size)) b a.size = nums a := by
    unfold nums
    rw [xorL]
    apply List.map_congr_left
    intro i hi
    have hi' : i < a.size := by simpa using hi
    rw [byt_nums (xorL_mem a b _) (by rw [xorL_len]; exact hi'), xorL_at a b hi']
    exact xr_back (byt_bits ha hi') (byt_bits hb (by omega))
  rw [e, nums_text]

/-- How many runs begin among the first k. -/
def chg (s : ByteArray) : Nat → Nat
  | 0 => 0
  | k + 1 => chg s k + (if newRun s k = true then 1 else 0)
theorem chg_len (s : ByteArray) : ∀ k, (runL s k).length = chg s k
  | 0 => rfl
  | k + 1 => by
    have h := chg_len s k
    simp only [runL, chg]
    split
    · simp [h]
    · rw [bump_len, h]; rfl
theorem bump_sum (l : List Int) (h : 0 < l.length) : (bump l).sum = l.sum + 1 := by
  obtain ⟨l', x, rfl⟩ : ∃ l' x, l = l' ++ [x] := ⟨l.dropLast, l.getLast (by intro e; subst e; simp at h), (List.dropLast_concat_getLast _).symm⟩
  rw [bump_snoc]
  simp only [List.sum_append, List.sum_cons, List.sum_nil]
  omega
theorem runL_sum (s : ByteArray) : ∀ k, (runL s k).sum = (k : Int)
  | 0 => rfl
  | k + 1 => by
    have h := runL_sum s k
    have hl := runL_len s k
    simp only [runL]
    split
    · simp only [List.sum_append, List.sum_cons, List.sum_nil]; omega
    · rename_i hn
      have h0 : k ≠ 0 := fun e => hn (by simp [newRun, e])
      rw [bump_sum _ (by omega)]; omega

/-- How many of the first k places have a 1 in both. -/
def both (a b : ByteArray) : Nat → Int
  | 0 => 0
  | k + 1 => both a b k + (if byt a k = 49 ∧ byt b k = 49 then 1 else 0)
theorem both_bd (a b : ByteArray) : ∀ k : Nat, 0 ≤ both a b k ∧ both a b k ≤ k
  | 0 => by simp [both]
  | k + 1 => by
    have h := both_bd a b k
    simp only [both]
    split <;> omega
theorem pc_two (z t : Nat) (ht : t < 2) : pc (2 * z + t) = t + pc z := by
  by_cases h : 2 * z + t = 0
  · have hz : z = 0 := by omega
    have h1 : t = 0 := by omega
    subst hz; subst h1; simp
  · rw [pc, dif_neg h]
    rw [show (2 * z + t) % 2 = t by omega, show (2 * z + t) / 2 = z by omega]
theorem and_two (x y i j : Nat) (hi : i < 2) (hj : j < 2) : (2 * x + i) &&& (2 * y + j) = 2 * (x &&& y) + (i &&& j) := by
  apply Nat.eq_of_testBit_eq
  intro n
  match n with
  | 0 =>
    rcases (show i = 0 ∨ i = 1 by omega) with rfl | rfl <;> rcases (show j = 0 ∨ j = 1 by omega) with rfl | rfl <;> simp [Nat.testBit_zero] <;> omega
  | n + 1 =>
    rw [Nat.testBit_and, Nat.testBit_succ, Nat.testBit_succ, Nat.testBit_succ, show (2 * x + i) / 2 = x by omega, show (2 * y + j) / 2 = y by omega]
    have : i &&& j < 2 := by
      rcases (show i = 0 ∨ i = 1 by omega) with rfl | rfl <;> rcases (show j = 0 ∨ j = 1 by omega) with rfl | rfl <;> decide
    rw [show (2 * (x &&& y) + (i &&& j)) / 2 = x &&& y by omega, Nat.testBit_and]
theorem both_pc {a b : ByteArray} (ha : BitsTo a a.size) (hb : BitsTo b b.size) : ∀ k, k ≤ a.size → k ≤ b.size → ((pc ((numL a k).toNat &&& (numL b k).toNat) : Nat) : Int) = both a b k
  | 0, _, _ => by simp [numL, both, pc]
  | k + 1, h1, h2 => by
    have h := both_pc ha hb k (by omega) (by omega)
    have x0 := byt_bits ha (i := k) (by omega)
    have y0 := byt_bits hb (i := k) (by omega)
    have p0 := (numL_bd ha k (by omega)).1
    have p1 := (numL_bd hb k (by omega)).1
    have e1 : (numL a (k + 1)).toNat = 2 * (numL a k).toNat + (byt a k - 48).toNat := by simp only [numL]; omega
    have e2 : (numL b (k + 1)).toNat = 2 * (numL b k).toNat + (byt b k - 48).toNat := by simp only [numL]; omega
    rw [e1, e2, and_two _ _ _ _ (by omega) (by omega), both, ← h]
    rcases x0 with x | x <;> rcases y0 with y | y <;> rw [x, y]
    · rw [show ((48 : Int) - 48).toNat = 0 by decide, show (0 &&& 0 : Nat) = 0 by decide, pc_two _ _ (by decide)]; simp
    · rw [show ((48 : Int) - 48).toNat = 0 by decide, show ((49 : Int) - 48).toNat = 1 by decide, show (0 &&& 1 : Nat) = 0 by decide, pc_two _ _ (by decide)]; simp
    · rw [show ((48 : Int) - 48).toNat = 0 by decide, show ((49 : Int) - 48).toNat = 1 by decide, show (1 &&& 0 : Nat) = 0 by decide, pc_two _ _ (by decide)]; simp
    · rw [show ((49 : Int) - 48).toNat = 1 by decide, show (1 &&& 1 : Nat) = 1 by decide, pc_two _ _ (by decide)]; simp; omega
theorem parity_both {a b : ByteArray} (ha : BitsTo a a.size) (hb : BitsTo b b.size) (hl : b.size = a.size) : parI (andI (numL a a.size) (numL b b.size)) = both a b a.size % 2 := by
  rw [← both_pc ha hb a.size (Nat.le_refl _) (by omega), hl]
  unfold parI andI
  rw [Int.toNat_natCast]
  omega
end Go.Proofs.YtdnikkmioighkaaDoor
