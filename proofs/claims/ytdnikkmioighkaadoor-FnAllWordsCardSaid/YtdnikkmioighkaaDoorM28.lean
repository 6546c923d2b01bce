/-
  Plain laws for FnAllWords: the least bits with all words, from wherever they are read; the table made of pairs and its cycles. No program.
-/
import Derived.Test.YtdnikkmioighkaaDoorM27
import Derived.Test.YtdnikkmioighkaaDoorM11
import Derived.Test.YtdnikkmioighkaaDoorT2
import Derived.Test.YtdnikkmioighkaaDoorAw
import Derived.Test.YtdnikkmioighkaaDoorLw
namespace Go.Proofs.YtdnikkmioighkaaDoor
open Go.RowKit
set_option linter.unusedVariables false

/-- The number of a word in a list. -/
def nwZ (l : List UInt8) (i : Nat) : Nat → Nat
  | 0 => 0
  | k + 1 => 2 * nwZ l i k + ((l.getD ((i + k) % l.length) 0).toNat - 48)
def okL (l : List UInt8) (W : Nat) : Bool := decide (l.length = 2 ^ W) && (l.all (fun c => c == 48 || c == 49) && (l.take W == List.replicate W 48 && decide ((List.range (2 ^ W)).map (fun i => nwZ l i W)).Nodup))
theorem okL_all : ∀ W, W < 7 → W = 0 ∨ okL (LW W) W = true := by decide +kernel
theorem strB_byt (l : List UInt8) {j : Nat} (h : j < l.length) : byt (strB l) j = ((l.getD j 0).toNat : Int) := by
  have hs : j < (strB l).size := by rw [strB_size]; exact h
  rw [byt_at _ hs]
  have := at_data (strB l) j hs
  rw [strB_list, List.getElem?_eq_getElem h] at this
  simp only [Option.some.injEq] at this
  rw [← this]
  simp [List.getD, h]
theorem strB_bits {l : List UInt8} (h : l.all (fun c => c == 48 || c == 49) = true) : BitsTo (strB l) (strB l).size := fun j hj _ => by
  have hl : j < l.length := by rw [strB_size] at hj; exact hj
  have h1 := strB_byt l hl
  rw [byt_at _ hj] at h1
  have h2 := List.all_eq_true.1 h (l.getD j 0) (by rw [List.getD_eq_getElem?_getD, List.getElem?_eq_getElem hl]; exact List.getElem_mem _)
  simp only [Bool.or_eq_true, beq_iff_eq] at h2
  rcases h2 with e | e <;> rw [e] at h1
  · left; have : (48 : UInt8).toNat = 48 := rfl
    omega
  · right; have : (49 : UInt8).toNat = 49 := rfl
    omega
theorem nw_strB {l : List UInt8} (h : l.all (fun c => c == 48 || c == 49) = true) (h0 : 0 < l.length) (i : Nat) : ∀ k, nw (strB l) i k = (nwZ l i k : Int)
  | 0 => rfl
  | k + 1 => by
    have hj : (i + k) % l.length < l.length := Nat.mod_lt _ h0
    have h1 := byt_bits (strB_bits h) (i := (i + k) % l.length) (by rw [strB_size]; exact hj)
    simp only [nw, nwZ]
    rw [nw_strB h h0 i k, strB_size]
    rw [strB_byt l hj] at h1 ⊢
    omega
theorem LW_facts {W : Nat} (h1 : 1 ≤ W) (h6 : W ≤ 6) : (strB (LW W)).size = 2 ^ W ∧ BitsTo (strB (LW W)) (strB (LW W)).size ∧ (LW W).take W = List.replicate W 48 ∧ DistW (strB (LW W)) W (2 ^ W) := by
  have h := (okL_all W (by omega)).resolve_left (by omega)
  unfold okL at h
  obtain ⟨a, h⟩ := Bool.and_eq_true_iff.1 h
  obtain ⟨b, h⟩ := Bool.and_eq_true_iff.1 h
  obtain ⟨c, d⟩ := Bool.and_eq_true_iff.1 h
  have a' := of_decide_eq_true a
  have hp : 0 < 2 ^ W := Nat.pow_pos (by decide)
  refine ⟨by rw [strB_size]; exact a', strB_bits b, by simpa using c, fun i j hij hj e => ?_⟩
  rw [nw_strB b (by omega), nw_strB b (by omega)] at e
  have d' := of_decide_eq_true d
  rw [List.Nodup, List.pairwise_map] at d'
  have := List.pairwise_iff_getElem.1 d' i j (by rw [List.length_range]; omega) (by rw [List.length_range]; exact hj) hij
  simp only [List.getElem_range] at this
  omega
/-- The bits read from another place. -/
def rotB (s : ByteArray) (t : Nat) : ByteArray := s.extract t s.size ++ s.extract 0 t
theorem rotB_size (s : ByteArray) {t : Nat} (h : t ≤ s.size) : (rotB s t).size = s.size := by
  unfold rotB
  rw [ByteArray.size_append, ByteArray.size_extract, ByteArray.size_extract]; omega
theorem rotB_byt (s : ByteArray) {t j : Nat} (h : t ≤ s.size) (hj : j < s.size) : byt (rotB s t) j = byt s ((j + t) % s.size) := by
  have hs : j < (rotB s t).size := by rw [rotB_size s h]; exact hj
  have hm : (j + t) % s.size < s.size := Nat.mod_lt _ (by omega)
  have hl := Lib.size_eq s
  have hq1 : j < s.size - t → (j + t) % s.size = t + j := fun c => by rw [Nat.mod_eq_of_lt (by omega)]; omega
  have hq2 : ¬ j < s.size - t → (j + t) % s.size = j - (s.data.toList.length - t) := fun c => by rw [Nat.mod_eq_sub_mod (by omega), Nat.mod_eq_of_lt (by omega)]; omega
  generalize (j + t) % s.size = q at *
  rw [byt_at _ hs, byt_at _ hm]
  have h1 := at_data (rotB s t) j hs
  have h2 := at_data s _ hm
  have e : (rotB s t).data.toList = (s.data.toList.drop t) ++ s.data.toList.take t := by
    unfold rotB
    rw [ByteArray.data_append, Array.toList_append, ByteArray.data_extract, ByteArray.data_extract, Array.toList_extract, Array.toList_extract]
    simp only [List.extract_eq_take_drop, List.drop_zero, Nat.sub_zero]
    rw [List.take_of_length_le (by rw [List.length_drop]; omega)]
  rw [e] at h1
  have h3 : s[q] = (rotB s t)[j] := by
    by_cases hlt : j < s.size - t
    · rw [List.getElem?_append_left (by rw [List.length_drop]; omega), List.getElem?_drop, ← hq1 hlt] at h1
      exact Option.some.inj (h2.symm.trans h1)
    · rw [List.getElem?_append_right (by rw [List.length_drop]; omega), List.length_drop, List.getElem?_take_of_lt (by omega), ← hq2 hlt] at h1
      exact Option.some.inj (h2.symm.trans h1)
  rw [h3]
theorem rotB_bits {s : ByteArray} (hb : BitsTo s s.size) {t : Nat} (h : t ≤ s.size) : BitsTo (rotB s t) (rotB s t).size := fun j hj _ => by
  have hs : j < s.size := by rw [rotB_size s h] at hj; exact hj
  have h1 := rotB_byt s h hs
  have h2 := byt_bits hb (i := (j + t) % s.size) (Nat.mod_lt _ (by omega))
  rw [byt_at _ hj] at h1
  omega
theorem rotB_nw (s : ByteArray) {t : Nat} (h : t ≤ s.size) (h0 : 0 < s.size) (i : Nat) : ∀ k, nw (rotB s t) i k = nw s ((i + t) % s.size) k
  | 0 => rfl
  | k + 1 => by
    simp only [nw]
    rw [rotB_nw s h h0 i k, rotB_size s h, rotB_byt s h (Nat.mod_lt _ h0)]
    have e : ((i + k) % s.size + t) % s.size = ((i + t) % s.size + k) % s.size := by
      rw [Nat.mod_add_mod, Nat.mod_add_mod]
      congr 1; omega
    rw [e]
theorem rotB_dist {s : ByteArray} {t W : Nat} (h : t ≤ s.size) (hd : DistW s W s.size) : DistW (rotB s t) W s.size := fun i j hij hj => by
  have h0 : 0 < s.size := by omega
  rw [rotB_nw s h h0, rotB_nw s h h0]
  have a1 : (i + t) % s.size < s.size := Nat.mod_lt _ h0
  have a2 : (j + t) % s.size < s.size := Nat.mod_lt _ h0
  have hne : (i + t) % s.size ≠ (j + t) % s.size := fun e => by
    have red : ∀ x, x < s.size → (x + t) % s.size = if x + t < s.size then x + t else x + t - s.size := fun x hx => by
      split
      · exact Nat.mod_eq_of_lt (by assumption)
      · rw [Nat.mod_eq_sub_mod (by omega), Nat.mod_eq_of_lt (by omega)]
    rw [red i (by omega), red j hj] at e
    split at e <;> split at e <;> omega
  rcases Nat.lt_or_gt_of_ne hne with c | c
  · exact hd _ _ c a2
  · exact fun e => hd _ _ c a1 e.symm
theorem awB_yes {W : Nat} {s : ByteArray} (h1 : 1 ≤ W) (h6 : W ≤ 6) (hb : BitsTo s s.size) (hs : s.size = 2 ^ W) (hd : DistW s W s.size) : awB W s = true := by
  have h2 : s.size ≤ 400 := by rw [hs]; exact Nat.le_trans (Nat.pow_le_pow_right (by decide) h6) (by decide)
  unfold awB
  rw [inR_mk (by omega) (by omega), bitsB_all hb]
  simp only [Bool.true_and, Bool.and_eq_true, decide_eq_true_eq, Int.toNat_natCast]
  exact ⟨h2, by rw [sh_nat, Int.toNat_natCast, hs], hd⟩

/-- The table of the pairs. -/
def tbl (g : Nat → Int) (b : Int) (k : Nat) : List Int := (List.range k).map fun x => 48 + if x % 2 = 1 then (g (x / 2) + b) % 2 else g (x / 2)
theorem tbl_succ (g : Nat → Int) (b : Int) (k : Nat) : tbl g b (k + 1) = tbl g b k ++ [48 + if k % 2 = 1 then (g (k / 2) + b) % 2 else g (k / 2)] := by simp [tbl, List.range_succ]
theorem tbl_len (g : Nat → Int) (b : Int) (k : Nat) : (tbl g b k).length = k := by simp [tbl]
theorem tbl_at (g : Nat → Int) (b : Int) {k x : Nat} (h : x < k) : (tbl g b k).getD x 0 = 48 + if x % 2 = 1 then (g (x / 2) + b) % 2 else g (x / 2) := by
  simp [tbl, List.getD, h]
theorem tbl_mem {g : Nat → Int} {b : Int} {k : Nat} (hg : ∀ i, g i = 0 ∨ g i = 1) : ∀ x ∈ tbl g b k, x = 48 ∨ x = 49 := fun x hx => by
  obtain ⟨i, _, rfl⟩ := List.mem_map.1 hx
  have := hg (i / 2)
  split <;> omega
theorem tbl_tc {g : Nat → Int} {b : Int} {W : Nat} (hg : ∀ i, g i = 0 ∨ g i = 1) (hW : W ≤ 6) : tcB W (strOfNums (tbl g b (2 ^ W))) = true := by
  have hb := bits_nums (tbl_mem (b := b) (k := 2 ^ W) hg)
  have hs : (strOfNums (tbl g b (2 ^ W))).size = 2 ^ W := by rw [strOfNums_size, tbl_len]
  have h2 : (strOfNums (tbl g b (2 ^ W))).size ≤ 400 := by rw [hs]; exact Nat.le_trans (Nat.pow_le_pow_right (by decide) hW) (by decide)
  unfold tcB
  rw [inR_mk (by omega) (by omega), bitsB_all hb]
  simp only [Bool.true_and, Bool.and_eq_true, decide_eq_true_eq]
  exact ⟨h2, by rw [sh_nat, Int.toNat_natCast, hs]⟩
theorem tcL_is {W : Nat} {s : ByteArray} (h : tcB W s = true) : ∃ L, tcL W s = L ∧ IsTC (tf s W) s.size L := by
  obtain ⟨W', e, hW, hb, hs⟩ := tcB_true h
  obtain rfl : W = W' := by omega
  have hf : ∀ x, x < s.size → tf s W x < s.size := by rw [hs]; exact tf_lt hb hs
  obtain ⟨out, ho⟩ : ∃ out, SpecL (tf s W) s.size s.size out := by
    have hall : ∀ k, k ≤ s.size → ∃ out, SpecL (tf s W) s.size k out := fun k => by
      induction k with
      | zero => exact fun _ => ⟨[], SpecL.zero _ _⟩
      | succ k ih =>
        intro hk
        obtain ⟨o, ho⟩ := ih (by omega)
        by_cases hc : Cyc (tf s W) k ∧ Lst (tf s W) k
        · obtain ⟨⟨p, hp⟩, hl⟩ := hc
          exact ⟨_, ho.yes hp (hp.le hf (by omega)) hl⟩
        · exact ⟨o, ho.no hc⟩
    exact hall _ (Nat.le_refl _)
  have hsort := srt_perm out s.size
  have hsp := srt_all (out := out) (n := s.size) (ho.bd hf (Nat.le_refl _))
  exact ⟨_, tcL_yes h ⟨(srt_sorted out s.size).1, out, ho, hsp⟩, (srt_sorted out s.size).1, out, ho, hsp⟩
theorem tf_inj {g : Nat → Int} {b : Int} {W : Nat} (hg : ∀ i, g i = 0 ∨ g i = 1) (hb : b = 0 ∨ b = 1) :
    (∀ x y, x < 2 ^ W → y < 2 ^ W → tf (strOfNums (tbl g b (2 ^ W))) W x = tf (strOfNums (tbl g b (2 ^ W))) W y → x = y) ↔ (W = 0 ∨ b = 1) := by
  have hbit : ∀ x, x < 2 ^ W → (bitN (strOfNums (tbl g b (2 ^ W))) x : Int) = if x % 2 = 1 then (g (x / 2) + b) % 2 else g (x / 2) := fun x hx => by
    have h1 := bitN_byt (bits_nums (tbl_mem (b := b) (k := 2 ^ W) hg)) (i := x) (by rw [strOfNums_size, tbl_len]; exact hx)
    rw [h1.1, byt_nums (tbl_mem hg) (by rw [tbl_len]; exact hx), tbl_at g b hx]; omega
  by_cases h0 : W = 0
  · subst h0
    refine ⟨fun _ => .inl rfl, fun _ x y hx hy _ => by omega⟩
  · obtain ⟨V, rfl⟩ : ∃ V, W = V + 1 := ⟨W - 1, by omega⟩
    have hf : ∀ x, x < 2 ^ (V + 1) → tf (strOfNums (tbl g b (2 ^ (V + 1)))) (V + 1) x = 2 ^ V * bitN (strOfNums (tbl g b (2 ^ (V + 1)))) x + x / 2 := fun x hx => by
      rw [Nat.pow_succ] at hx
      rw [tf, if_neg h0, Nat.two_pow_add_eq_or_of_lt (by omega), Nat.or_comm, Nat.mul_comm]; rfl
    have hpar : ∀ x y, x < 2 ^ (V + 1) → y < 2 ^ (V + 1) → (tf (strOfNums (tbl g b (2 ^ (V + 1)))) (V + 1) x = tf (strOfNums (tbl g b (2 ^ (V + 1)))) (V + 1) y ↔ x / 2 = y / 2 ∧ (bitN (strOfNums (tbl g b (2 ^ (V + 1)))) x : Int) = bitN (strOfNums (tbl g b (2 ^ (V + 1)))) y) := fun x y hx hy => by
      rw [hf x hx, hf y hy]
      have hp : 0 < 2 ^ V := Nat.pow_pos (by decide)
      rw [Nat.pow_succ] at hx hy
      constructor
      · intro e
        have e1 : x / 2 = y / 2 := by
          have := congrArg (· % 2 ^ V) e
          simpa [Nat.mul_add_mod, Nat.mod_eq_of_lt (show x / 2 < 2 ^ V by omega), Nat.mod_eq_of_lt (show y / 2 < 2 ^ V by omega)] using this
        refine ⟨e1, ?_⟩
        rw [e1] at e
        have e2 := Nat.mul_left_cancel hp (Nat.add_right_cancel e)
        rw [e2]
      · rintro ⟨e1, e2⟩
        rw [e1, Int.ofNat.inj e2]
    have hp : 0 < 2 ^ V := Nat.pow_pos (by decide)
    constructor
    · intro h
      right
      rcases hb with rfl | rfl
      · exfalso
        have h1 := h 0 1 (Nat.pow_pos (by decide)) (by rw [Nat.pow_succ]; omega) ((hpar 0 1 (Nat.pow_pos (by decide)) (by rw [Nat.pow_succ]; omega)).2 ⟨rfl, by
          rw [hbit 0 (Nat.pow_pos (by decide)), hbit 1 (by rw [Nat.pow_succ]; omega)]
          have := hg 0
          simp; omega⟩)
        omega
      · rfl
    · rintro (c | rfl) x y hx hy e
      · omega
      · obtain ⟨e1, e2⟩ := (hpar x y hx hy).1 e
        rw [hbit x hx, hbit y hy, e1] at e2
        have := hg (y / 2)
        split at e2 <;> split at e2 <;> omega
/-- What the law asks of the lengths. -/
theorem tbl_law {g : Nat → Int} {b : Int} {W : Nat} (hg : ∀ i, g i = 0 ∨ g i = 1) (hb : b = 0 ∨ b = 1) (hW : W ≤ 6) :
    ∃ L : List Nat, tcL W (strOfNums (tbl g b (2 ^ W))) = L ∧ L ≠ [] ∧ L.length ≤ 2 ^ W ∧ L.Pairwise (· ≤ ·) ∧ (∀ v ∈ L, 1 ≤ v ∧ v ≤ 2 ^ W) ∧ L.sum ≤ 2 ^ W ∧ (L.sum = 2 ^ W ↔ (W = 0 ∨ b = 1)) := by
  have hs : (strOfNums (tbl g b (2 ^ W))).size = 2 ^ W := by rw [strOfNums_size, tbl_len]
  have hbt := bits_nums (tbl_mem (b := b) (k := 2 ^ W) hg)
  obtain ⟨L, e, h1, out, h2, h3⟩ := tcL_is (tbl_tc (b := b) hg hW)
  rw [hs] at h2
  have hf := tf_lt hbt hs
  have hsum : L.sum = out.sum := h3.sum_nat
  obtain ⟨s1, s2⟩ := tc_sum hf h2
  refine ⟨L, e, ?_, by rw [h3.length_eq]; exact h2.len, h1, fun v hv => h2.bd hf (Nat.le_refl _) v (h3.mem_iff.1 hv), by rw [hsum]; exact s1, by rw [hsum, s2, tf_inj hg hb]⟩
  intro c
  subst c
  exact tc_some hf (Nat.pow_pos (by decide)) h2 (List.nil_perm.1 h3)
end Go.Proofs.YtdnikkmioighkaaDoor
