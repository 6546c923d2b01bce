/-
  Long division of numbers by their digits to the base 2^32: plain laws. No Go program here.
-/
import Derived.Test.YthkmhpkoanmbkaaDoorN1
import Derived.Laws.CopyOwn
import Derived.Lib.ItoaNum
namespace Go.Proofs.YthkmhpkoanmbkaaDoor
open Go.RowKit
set_option linter.unusedVariables false

theorem getD_app1 (us bs : List Int) {j : Nat} (h : j < us.length) : (us ++ bs).getD j 0 = us.getD j 0 := by simp only [List.getD]; rw [List.getElem?_append_left h]
theorem getD_app2 (us bs : List Int) (j : Nat) : (us ++ bs).getD (us.length + j) 0 = bs.getD j 0 := by simp only [List.getD]; rw [List.getElem?_append_right (by omega)]; simp
theorem Dig.append {us bs : List Int} (h1 : Dig us) (h2 : Dig bs) : Dig (us ++ bs) := fun j => by
  by_cases h : j < us.length
  · rw [getD_app1 us bs h]; exact h1 j
  · obtain ⟨d, rfl⟩ : ∃ d, j = us.length + d := ⟨j - us.length, by omega⟩
    rw [getD_app2]; exact h2 d
theorem getD_drop (xs : List Int) (k j : Nat) : (xs.drop k).getD j 0 = xs.getD (k + j) 0 := by simp [List.getD]
theorem Dig.drop {xs : List Int} (h : Dig xs) (k : Nat) : Dig (xs.drop k) := fun j => by rw [getD_drop]; exact h _
theorem pk_append (us bs : List Int) : ∀ k, pk (us ++ bs) (us.length + k) = val us + bp us.length * pk bs k
  | 0 => by
    simp only [pk, Nat.add_zero, Int.mul_zero, Int.add_zero]
    exact pk_congr _ fun j hj => getD_app1 us bs hj
  | k + 1 => by
    rw [Nat.add_succ, pk, pk_append us bs k, pk, getD_app2, bp_add]
    grind
theorem val_append (us bs : List Int) : val (us ++ bs) = val us + bp us.length * val bs := by
  unfold val
  rw [List.length_append]
  exact pk_append us bs _
theorem val_zeros (n : Nat) : val (List.replicate n 0) = 0 := pk_zero _
/-- A number cut in three. -/
theorem val_cut (zs : List Int) {k n : Nat} (h : k + n ≤ zs.length) : val zs = val (zs.take k) + bp k * (val ((zs.drop k).take n) + bp n * val (zs.drop (k + n))) := by
  have e1 : zs = zs.take k ++ zs.drop k := (List.take_append_drop k zs).symm
  have e2 : zs.drop k = (zs.drop k).take n ++ zs.drop (k + n) := by
    rw [← List.drop_drop]; exact (List.take_append_drop n _).symm
  have l1 : (zs.take k).length = k := by rw [List.length_take]; omega
  have l2 : ((zs.drop k).take n).length = n := by rw [List.length_take, List.length_drop]; omega
  have h1 := val_append (zs.take k) (zs.drop k)
  have h2 := val_append ((zs.drop k).take n) (zs.drop (k + n))
  rw [l1, ← e1] at h1
  rw [l2, ← e2] at h2
  rw [h1, h2]
theorem splice_two {zs ls : List Int} {k n : Nat} (h : k + n ≤ zs.length) (hl : ls.length ≤ n) :
    splice (splice zs k (List.replicate n 0)) k ls = zs.take k ++ (ls ++ (List.replicate (n - ls.length) 0 ++ zs.drop (k + n))) := by
  have l1 : (zs.take k).length = k := by rw [List.length_take]; omega
  have l1' : min k zs.length = k := by omega
  unfold splice
  rw [List.length_replicate]
  have e1 : (zs.take k ++ (List.replicate n 0 ++ zs.drop (k + n))).take k = zs.take k := by
    rw [List.take_append_of_le_length (by rw [l1]; omega), List.take_of_length_le (by rw [l1]; omega)]
  have e2 : (zs.take k ++ (List.replicate n 0 ++ zs.drop (k + n))).drop (k + ls.length) = List.replicate (n - ls.length) 0 ++ zs.drop (k + n) := by
    rw [List.drop_append, l1, List.drop_eq_nil_of_le (by rw [l1]; omega), List.nil_append, show k + ls.length - k = ls.length by omega, List.drop_append_of_le_length (by simp; omega)]
    congr 1
    simp
  rw [e1, e2]
theorem mul_lt_of_bd {a b c : Int} (hc : 0 < c) (h : a * c < b * c) : a < b := Int.lt_of_mul_lt_mul_right h (Int.le_of_lt hc)
/-- A divisor whose first digit is great. -/
theorem norm_shift {ys : List Int} {K : Nat} {n p : Int} (hd : Dig ys) (hl : ys.length = K + 1) (hv : val ys = n) (h1 : 2147483648 ≤ ys.getD K 0 * p) (h2 : (ys.getD K 0 + 1) * p ≤ 4294967296) (hp : 1 ≤ p) :
    2147483648 * bp K ≤ n * p ∧ n * p < bp (K + 1) := by
  have b := pk_bd hd K
  have e : n = pk ys K + ys.getD K 0 * bp K := by rw [← hv]; unfold val; rw [hl, pk]
  generalize ys.getD K 0 = t at h1 h2 e
  generalize pk ys K = r at b e
  have hb := bp_pos K
  generalize hB : bp K = B at b e hb
  constructor
  · have e2 : n * p = r * p + t * p * B := by grind
    have e3 := Int.mul_le_mul_of_nonneg_right h1 (show 0 ≤ B by omega)
    have e4 := Int.mul_nonneg b.1 (show 0 ≤ p by omega)
    omega
  · have e2 : (n + 1) * p ≤ ((t + 1) * B) * p := Int.mul_le_mul_of_nonneg_right (by rw [Int.add_mul]; omega) (by omega)
    have e3 := Int.mul_le_mul_of_nonneg_right h2 (show 0 ≤ B by omega)
    have e4 : ((t + 1) * B) * p = (t + 1) * p * B := by grind
    rw [bp, hB]
    rw [Int.add_mul] at e2
    omega
theorem len_eq {bs : List Int} {K : Nat} {D : Int} (hd : Dig bs) (hn : Norm bs) (hv : val bs = D) (h1 : 2147483648 * bp K ≤ D) (h2 : D < bp (K + 1)) : bs.length = K + 1 := by
  have b := bp_pos K
  by_cases h0 : bs.length = 0
  · obtain rfl : bs = [] := List.eq_nil_of_length_eq_zero h0
    have : D = 0 := by rw [← hv]; rfl
    omega
  · have l1 := norm_low hd hn h0
    have l2 := val_lt hd
    rw [hv] at l1 l2
    by_cases c1 : K + 1 ≤ bs.length - 1
    · have := bp_mono c1; omega
    · by_cases c2 : bs.length ≤ K
      · have := bp_mono c2; omega
      · omega
theorem top_ge {bs : List Int} {K : Nat} {D : Int} (hd : Dig bs) (hl : bs.length = K + 1) (hv : val bs = D) (h1 : 2147483648 * bp K ≤ D) : 2147483648 ≤ bs.getD K 0 ∧ bs.getD K 0 * bp K ≤ D := by
  have b := pk_bd hd K
  have e : D = pk bs K + bs.getD K 0 * bp K := by rw [← hv]; unfold val; rw [hl, pk]
  generalize bs.getD K 0 = t at e
  generalize pk bs K = r at b e
  have hb := bp_pos K
  refine ⟨?_, by omega⟩
  have : 2147483648 * bp K < (t + 1) * bp K := by rw [Int.add_mul]; omega
  have := mul_lt_of_bd (by omega) this
  omega
/-- The first guess is not too small. -/
theorem est_ge {W D top t low B : Int} (hW : W = low + top * B) (l1 : low < B) (hB : 1 ≤ B) (ht : t * B ≤ D) (t1 : 1 ≤ t) (hD : 0 < D) (w0 : 0 ≤ W) : W / D ≤ top / t := by
  have q0 : 0 ≤ W / D := Int.ediv_nonneg w0 (Int.le_of_lt hD)
  have h1 : W / D * D ≤ W := Int.ediv_mul_le W (by omega)
  have h2 := Int.mul_le_mul_of_nonneg_left ht q0
  have e : W / D * (t * B) = W / D * t * B := by rw [Int.mul_assoc]
  have h3 : W / D * t * B < (top + 1) * B := by rw [Int.add_mul]; omega
  have h4 := mul_lt_of_bd (by omega) h3
  exact Int.le_ediv_of_mul_le (by omega) (by omega)
theorem guess_eq {W D d : Int} (hD : 0 < D) (h1 : W / D ≤ d) (h2 : d * D ≤ W) : d = W / D := by
  have := Int.le_ediv_of_mul_le hD h2
  omega
/-- One step of the division. -/
theorem div_step {zs ls : List Int} {k N L : Nat} {D W : Int} (hd : Dig zs) (hl : zs.length = L) (hk : k + (N + 1) ≤ L) (hV : val zs < D * bp (k + 1)) (hD : 0 < D) (hDb : D < bp N) (hW : val ((zs.drop k).take (N + 1)) = W) (dl : Dig ls) (ll : ls.length ≤ N + 1) (lv : val ls = W - W / D * D) :
    (splice (splice zs k (List.replicate (N + 1) 0)) k ls).length = L ∧ Dig (splice (splice zs k (List.replicate (N + 1) 0)) k ls) ∧ val (splice (splice zs k (List.replicate (N + 1) 0)) k ls) = val zs - W / D * D * bp k ∧ val (splice (splice zs k (List.replicate (N + 1) 0)) k ls) < D * bp k := by
  have hcut := val_cut zs (k := k) (n := N + 1) (by omega)
  rw [splice_two (by omega) ll]
  have dlo : Dig (zs.take k) := hd.take k
  have dhi : Dig (zs.drop (k + (N + 1))) := hd.drop _
  have dwin : Dig ((zs.drop k).take (N + 1)) := (hd.drop k).take _
  have l1 : (zs.take k).length = k := by rw [List.length_take]; omega
  have blo := val_nonneg dlo
  have blo2 := val_lt dlo
  rw [l1] at blo2
  have bhi := val_nonneg dhi
  have w0 := val_nonneg dwin
  rw [hW] at hcut w0
  have bk := bp_pos k
  have bn := bp_pos (N + 1)
  have hhi : val (zs.drop (k + (N + 1))) = 0 := by
    by_cases c : val (zs.drop (k + (N + 1))) = 0
    · exact c
    · exfalso
      have h1 : 1 ≤ val (zs.drop (k + (N + 1))) := by omega
      have h2 : bp k * (bp (N + 1) * 1) ≤ bp k * (bp (N + 1) * val (zs.drop (k + (N + 1)))) := Int.mul_le_mul_of_nonneg_left (Int.mul_le_mul_of_nonneg_left h1 (by omega)) (by omega)
      have h3 : D * bp (k + 1) ≤ bp N * bp (k + 1) := Int.mul_le_mul_of_nonneg_right (by omega) (by have := bp_pos (k + 1); omega)
      have h4 : bp N * bp (k + 1) = bp k * bp (N + 1) := by rw [bp, bp]; grind
      have h5 : 0 ≤ bp k * W := Int.mul_nonneg (by omega) w0
      rw [Int.mul_one] at h2
      rw [Int.mul_add] at hcut
      omega
  rw [hhi, Int.mul_zero, Int.add_zero] at hcut
  have ev : val (zs.take k ++ (ls ++ (List.replicate (N + 1 - ls.length) 0 ++ zs.drop (k + (N + 1))))) = val (zs.take k) + bp k * (W - W / D * D) := by
    rw [val_append, val_append, val_append, hhi, val_zeros, l1, lv]
    simp
  rw [ev]
  refine ⟨by simp only [List.length_append, List.length_replicate, List.length_drop]; rw [l1]; omega, dlo.append (dl.append ((dig_zero _).append dhi)), ?_, ?_⟩
  · rw [hcut]; grind
  · have h1 : W % D < D := Int.emod_lt_of_pos W hD
    have h2 := Int.mul_ediv_add_emod W D
    have h3 : W - W / D * D = W % D := by rw [Int.mul_comm (W / D)]; omega
    rw [h3]
    have h4 : bp k * (W % D + 1) ≤ bp k * D := Int.mul_le_mul_of_nonneg_left (by omega) (by omega)
    rw [Int.mul_add, Int.mul_one] at h4
    rw [Int.mul_comm D]
    omega
/-- The window, its guess, its digit. -/
theorem win_bd {zs : List Int} {k N L : Nat} {D W : Int} (hd : Dig zs) (hl : zs.length = L) (hk : k + (N + 1) ≤ L) (hV : val zs < D * bp (k + 1)) (hD : 0 < D) (hW : val ((zs.drop k).take (N + 1)) = W) : 0 ≤ W ∧ 0 ≤ W / D ∧ W / D ≤ 4294967295 := by
  have hcut := val_cut zs (k := k) (n := N + 1) (by omega)
  have w0 : 0 ≤ W := by rw [← hW]; exact val_nonneg ((hd.drop k).take _)
  have blo := val_nonneg (hd.take k)
  have bhi := val_nonneg (hd.drop (k + (N + 1)))
  have bk := bp_pos k
  have bn := bp_pos (N + 1)
  rw [hW] at hcut
  refine ⟨w0, Int.ediv_nonneg w0 (by omega), ?_⟩
  have h1 : W * bp k < (4294967296 * D) * bp k := by
    have h2 : 0 ≤ bp k * (bp (N + 1) * val (zs.drop (k + (N + 1)))) := Int.mul_nonneg (by omega) (Int.mul_nonneg (by omega) bhi)
    have h3 : D * bp (k + 1) = (4294967296 * D) * bp k := by rw [bp]; grind
    have h4 : bp k * W = W * bp k := Int.mul_comm _ _
    rw [Int.mul_add] at hcut
    omega
  have h5 := mul_lt_of_bd (by omega) h1
  have h6 : W / D < 4294967296 := Int.ediv_lt_of_lt_mul hD h5
  omega
theorem win_top {win : List Int} {N : Nat} (hd : Dig win) (hl : win.length = N + 2) : ∃ low, val win = low + (win.getD (N + 1) 0 * 4294967296 + win.getD N 0) * bp N ∧ 0 ≤ low ∧ low < bp N := by
  refine ⟨pk win N, ?_, pk_bd hd N⟩
  unfold val
  rw [hl, pk, pk, bp]
  grind
theorem shift_of {x : Int} (h1 : 1 ≤ x) (h2 : x ≤ 4294967295) : ∃ (s : Nat) (p : Int), 32 - (Lib.bitLen x.toNat : Int) = s ∧ s ≤ 31 ∧ (2 : Int) ^ s = p ∧ 2147483648 ≤ x * p ∧ (x + 1) * p ≤ 4294967296 := by
  obtain ⟨X, rfl⟩ := Int.eq_ofNat_of_zero_le (show 0 ≤ x by omega)
  rw [Int.toNat_natCast]
  obtain ⟨b1, s3, s1⟩ := Lib.bitLenAux_bounds 64 X (by omega) (by omega)
  obtain ⟨b, hb⟩ : ∃ b, Lib.bitLen X = b := ⟨_, rfl⟩
  have hb' : Lib.bitLenAux 64 X = b := hb
  rw [hb'] at s1 s3 b1
  rw [hb]
  have b2 : b ≤ 32 := by
    by_cases h : b ≤ 32
    · exact h
    · have := Nat.pow_le_pow_right (show 0 < 2 by decide) (show 32 ≤ b - 1 by omega)
      omega
  obtain ⟨s, hs, hbs⟩ : ∃ s, s ≤ 31 ∧ b = 32 - s := ⟨32 - b, by omega, by omega⟩
  subst hbs
  refine ⟨s, 2 ^ s, by omega, hs, rfl, ?_, ?_⟩
  · have e : 2 ^ (32 - s - 1) * 2 ^ s = 2147483648 := by
      rw [← Nat.pow_add, show 32 - s - 1 + s = 31 by omega]
    have := Nat.mul_le_mul_right (2 ^ s) s3
    have : 2147483648 ≤ X * 2 ^ s := by omega
    have e2 : ((X : Int) * 2 ^ s) = ((X * 2 ^ s : Nat) : Int) := by simp
    omega
  · have e : 2 ^ (32 - s) * 2 ^ s = 4294967296 := by
      rw [← Nat.pow_add, show 32 - s + s = 32 by omega]
    have := Nat.mul_le_mul_right (2 ^ s) (show X + 1 ≤ 2 ^ (32 - s) by omega)
    have e2 : (((X : Int) + 1) * 2 ^ s) = (((X + 1) * 2 ^ s : Nat) : Int) := by simp
    omega
end Go.Proofs.YthkmhpkoanmbkaaDoor
