/-
  Contract of the reference's l02Equations. Conditions: at most 32 bits, the width no more than their number.
-/
import Derived.Test.YtgcfibljepdkkaaDoorApp
import Derived.Test.YtgcfibljepdkkaaDoorM24
import Derived.Test.YtgcfibljepdkkaaDoorC19
namespace Go.Proofs.YtgcfibljepdkkaaDoor
open Go.RowKit
set_option linter.unusedVariables false

/-- Natural numbers as a list of int64. -/
def nl (es : List Nat) : List Int := es.map fun n : Nat => (n : Int)
theorem nl_len (es : List Nat) : (nl es).length = es.length := by simp [nl]
theorem nl_append (es fs : List Nat) : nl (es ++ fs) = nl es ++ nl fs := by simp [nl]
theorem nl_snoc (es : List Nat) (e : Nat) : nl (es ++ [e]) = nl es ++ [(e : Int)] := by simp [nl]
theorem nl_getD (es : List Nat) (i : Nat) : (nl es).getD i 0 = ((es.getD i 0 : Nat) : Int) := by
  simp only [nl, List.getD, List.getElem?_map]
  cases es[i]? <;> rfl
theorem bit_div (b k : Nat) : b.testBit k = decide (b / 2 ^ k % 2 = 1) := by
  rw [Nat.testBit_eq_decide_div_mod_eq]
theorem and_yes {b k : Nat} (h : b < 9223372036854775808) (hb : b.testBit k = true) : bits .and .i64 ((b : Int) / 2 ^ k) 1 = 1 := by
  rw [bit_div] at hb
  rw [and_one_nat h, of_decide_eq_true hb]; rfl
theorem and_no {b k : Nat} (h : b < 9223372036854775808) (hb : b.testBit k = false) : bits .and .i64 ((b : Int) / 2 ^ k) 1 = 0 := by
  rw [bit_div] at hb
  rw [and_one_nat h, show b / 2 ^ k % 2 = 0 by have := of_decide_eq_false hb; omega]; rfl
theorem pow33 {W : Nat} (h : W ≤ 32) : 2 ^ (W + 1) ≤ 8589934592 := Nat.le_trans (Nat.pow_le_pow_right (by decide) (show W + 1 ≤ 33 by omega)) (by decide)
theorem byte_bit {s : ByteArray} (hb : BitsTo s s.size) {i : Nat} (h : i < s.size) : IntKind.u8.wrap ((s[i].toNat : Int) - 48) = ((bitN s i : Nat) : Int) := by
  have h1 := (bitN_byt hb h).1
  have h2 := byt_bits hb h
  rw [byt_at s h] at h1 h2
  rw [h1]
  exact IntWalk.u8_in _ (by omega)
set_option maxHeartbeats 1000000 in
theorem l02Equations_any (s : ByteArray) (W : Nat) (w : World) (hb : BitsTo s s.size) (hs : s.size ≤ 32) (hW : W ≤ s.size) :
    Calls Tryd.prog 21 #[.string s, .int .i64 W] w fun e w' => ∃ v, e = .returned v ∧ OwnI .i64 w.heap.size 2 w w' v (nl (eqA s W)) := by
  have HB := Lib.hid hb
  clear hb
  go_enter Tryd.func21, Tryd.ntmps21
  go_wp2
  go_loopw [5, 6] (fun v i wr => ∃ t : Nat, t ≤ s.size - W ∧ i = .int .i64 t ∧ Hid (OwnI .i64 w.heap.size 2 w wr v (nl (eqL s W t)))) (fun _ i _ => s.size - W - (intOf i).toNat)
  case atStart => exact ⟨0, Nat.zero_le _, rfl, Lib.hid (OwnI.made (bw_refl _) (Nat.le_refl _))⟩
  case round =>
    obtain ⟨t, ht, rfl, ho⟩ := hrel
    by_cases hlt : t < s.size - W
    · have r1 : (t : Int) + (W : Int) < (s.size : Int) := by omega
      go_wp2
      go_loop [7, 8] (fun q i => ∃ k : Nat, k ≤ W + 1 ∧ i = .int .i64 k ∧ q = .int .i64 (eqN s t k : Nat)) (fun _ i => W + 1 - (intOf i).toNat)
      case atStart => exact ⟨0, Nat.zero_le _, rfl, rfl⟩
      case round =>
        obtain ⟨k, hk, rfl, rfl⟩ := hrel
        have hq := eqN_lt HB.out t k (by omega)
        have hp := pow33 (show W ≤ 32 by omega)
        have hp2 : 2 ^ k ≤ 2 ^ (W + 1) := Nat.pow_le_pow_right (by decide) hk
        by_cases hkl : k ≤ W
        · have hj : t + k < s.size := by omega
          have hbb := byte_bit HB.out hj
          have hb1 := (bitN_byt HB.out hj).2
          have HE : Hid (eqN s t (k + 1) = eqN s t k ||| bitN s (t + k) * 2 ^ k) := Lib.hid rfl
          obtain ⟨j, HJ⟩ : ∃ j, Hid (t + k = j) := ⟨_, Lib.hid rfl⟩
          have hj2 : (t : Int) + (k : Int) = (j : Int) := by have := HJ.out; omega
          simp only [HJ.out] at hbb hb1 HE hj
          obtain ⟨b, HBt⟩ : ∃ b, Hid (bitN s j = b) := ⟨_, Lib.hid rfl⟩
          rw [HBt.out] at hbb hb1 HE
          obtain ⟨q, HQ⟩ : ∃ q, Hid (eqN s t k = q) := ⟨_, Lib.hid rfl⟩
          rw [HQ.out] at hq HE ⊢
          have hm : b * 2 ^ k ≤ 1 * 2 ^ k := Nat.mul_le_mul_right _ hb1
          have hm3 : b * 2 ^ k < 9223372036854775808 := by omega
          have HS := Lib.hid (shl_nat hm3)
          have HO := Lib.hid (i64_or_nat q (b * 2 ^ k) (by omega) hm3)
          have r2 : (k : Int) ≤ (W : Int) := by omega
          have u1 : IntKind.u64.wrap (k : Int) = k := IntWalk.u64_in _ (by omega)
          clear hm hm3 hp hp2 hq
          go_wp2
          rw [HS.out, HO.out]
          go_round
          case rel => exact ⟨k + 1, by omega, by go_num, by rw [HE.out]⟩
          case measure => simp [intOf]; omega
        · have hke : k = W + 1 := by omega
          subst hke
          have HE : Hid (nl (eqL s W (t + 1)) = nl (eqL s W t) ++ [((eqN s t (W + 1) : Nat) : Int)]) := Lib.hid (by rw [eqL_succ, nl_snoc])
          have HL : Hid ((nl (eqL s W t)).length < 1000000000000) := Lib.hid (by rw [nl_len, eqL_len]; omega)
          obtain ⟨q, HQ⟩ : ∃ q, Hid (eqN s t (W + 1) = q) := ⟨_, Lib.hid rfl⟩
          rw [HQ.out] at hq HE ⊢
          clear hq hp hp2
          go_wp2_with (at_builtin; refine wpApp tI rfl _ _ rfl rfl ho.out rfl (by decide) HL.out ?_; intro v' w7 hown7)
          go_roundw
          case rel => exact ⟨t + 1, by omega, by go_num, Lib.hid (by rw [HE.out]; exact hown7)⟩
          case measure => simp [intOf]; omega
    · have hke : t = s.size - W := by omega
      subst hke
      have r1 : ¬ ((s.size - W : Nat) : Int) + (W : Int) < (s.size : Int) := by omega
      go_wp2
      go_ret
      exact ⟨_, rfl, ho.out⟩
end Go.Proofs.YtgcfibljepdkkaaDoor
