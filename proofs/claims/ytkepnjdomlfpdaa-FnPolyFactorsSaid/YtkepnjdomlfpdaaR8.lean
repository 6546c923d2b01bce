/-
  Contracts of what the laws of the registers' layer draw from bytes: r8Long, r8At, r8Degree, R8Number. Conditions stand in each contract.
-/
import Derived.Test.YtkepnjdomlfpdaaSrc
import Derived.Test.YtkepnjdomlfpdaaM5
namespace Go.Proofs.Ytkepnjdomlfpdaa
open Go.RowKit
set_option linter.unusedVariables false

/-- A number below n out of bytes. -/
def r8 (zs : List Int) (len : Nat) (i n : Int) : Int := if n ≤ 1 then 0 else if len ≤ i then 0 else (zs.getD i.toNat 0) % n
theorem r8_lt (zs : List Int) (len : Nat) (i : Int) {n : Int} (h : 1 ≤ n) : 0 ≤ r8 zs len i n ∧ r8 zs len i n < n := by
  unfold r8
  split
  · omega
  · split
    · omega
    · exact ⟨Int.emod_nonneg _ (by omega), Int.emod_lt_of_pos _ (by omega)⟩
def lon8 (n m : Nat) : Bool := decide (48 < n) || decide (48 < m)
theorem r8Long_any (a0 a1 : Option Addr) (l0 c0 l1 c1 : Nat) (w : World) (h0 : l0 ≤ maxLen) (h1 : l1 ≤ maxLen) :
    Calls Try.prog 33 #[.slice a0 l0 c0, .slice a1 l1 c1] w fun e w' => e = .returned (.bool (lon8 l0 l1)) ∧ w = w' := by
  unfold maxLen at h0 h1
  by_cases h : (48 : Int) < (l0 : Int)
  · have e : lon8 l0 l1 = true := by simp [lon8]; omega
    rw [e]; clear e
    go_enter Try.func33, Try.ntmps33
    go_wp2
    go_ret
    exact ⟨rfl, rfl⟩
  · have e : lon8 l0 l1 = decide ((48 : Int) < (l1 : Int)) := by
      have e1 : decide (48 < l0) = false := by simp; omega
      have e2 : decide (48 < l1) = decide ((48 : Int) < (l1 : Int)) := decide_eq_decide.2 (by omega)
      rw [lon8, e1, e2, Bool.false_or]
    rw [e]; clear e
    go_enter Try.func33, Try.ntmps33
    go_wp2
    go_ret
    exact ⟨rfl, rfl⟩
theorem r8Long_of {a0 a1 : Option Addr} {l0 c0 l1 c1 : Nat} {b : Bool} {w : World} (h0 : l0 ≤ maxLen) (h1 : l1 ≤ maxLen) (h : lon8 l0 l1 = b) :
    Calls Try.prog 33 #[.slice a0 l0 c0, .slice a1 l1 c1] w fun e w' => e = .returned (.bool b) ∧ w = w' := h ▸ r8Long_any a0 a1 l0 c0 l1 c1 w h0 h1
theorem r8At_any (a : Option Addr) (l c : Nat) (zs : List Int) (i n : Int) (w : World) (h : IsRow .u8 w a l c zs) (i0 : 0 ≤ i) (i1 : i ≤ 1000000) (n1 : n ≤ 9223372036854775807) :
    Calls Try.prog 35 #[.slice a l c, .int .i64 i, .int .i64 n] w fun e w' => e = .returned (.int .i64 (r8 zs l i n)) ∧ w = w' := by
  obtain ⟨g1, g2, g3⟩ := h.len_le
  unfold maxLen at g1
  by_cases hn : n ≤ 1
  · have e : r8 zs l i n = 0 := by simp [r8, hn]
    rw [e]; clear e
    go_enter Try.func35, Try.ntmps35
    go_wp2
    go_ret
    exact ⟨rfl, rfl⟩
  · by_cases hi : (l : Int) ≤ i
    · have e : r8 zs l i n = 0 := by unfold r8; rw [if_neg hn, if_pos hi]
      rw [e]; clear e
      go_enter Try.func35, Try.ntmps35
      go_wp2
      go_ret
      exact ⟨rfl, rfl⟩
    · obtain ⟨b, off, rfl, _, _, _, _, hc, hw⟩ := h.open (by omega)
      obtain ⟨k, rfl⟩ := Int.eq_ofNat_of_zero_le i0
      have e : r8 zs l k n = (zs.getD k 0) % n := by unfold r8; rw [if_neg hn, if_neg hi]; rfl
      rw [e]; clear e
      have hck := hc k (by omega)
      have hz : zs.getD k 0 = zs[k]'(by omega) := by simp [List.getD, show k < zs.length by omega]
      have hm := hw _ (List.getElem_mem (l := zs) (n := k) (by omega))
      rw [hz] at hck ⊢
      generalize zs[k]'(by omega) = z at *
      have hzb : 0 ≤ z ∧ z ≤ 255 := by simpa [Lit.wf, IntKind.min, IntKind.max, IntKind.signed, IntKind.bits] using hm
      have hik : (k : Int) < (l : Int) := by omega
      clear hc hw hz hm
      go_enter Try.func35, Try.ntmps35
      go_wp2
      go_ret
      exact ⟨rfl, rfl⟩
theorem r8At_of {a : Option Addr} {l c : Nat} {zs : List Int} {i n v : Int} {w : World} (h : IsRow .u8 w a l c zs) (i0 : 0 ≤ i) (i1 : i ≤ 1000000) (n1 : n ≤ 9223372036854775807) (hv : Hid (r8 zs l i n = v)) :
    Calls Try.prog 35 #[.slice a l c, .int .i64 i, .int .i64 n] w fun e w' => e = .returned (.int .i64 v) ∧ w = w' := by
  have e := hv.out
  subst e
  exact r8At_any a l c zs i n w h i0 i1 n1
theorem r8Degree_any (p : Nat) (w : World) (h : p < 9223372036854775808) :
    Calls Try.prog 36 #[.int .i64 p] w fun e w' => e = .returned (.int .i64 ((bl p : Int) - 1)) ∧ w = w' := by
  obtain ⟨Bp, hB⟩ : ∃ B, Hid (bl p = B) := ⟨_, Lib.hid rfl⟩
  have lB : Bp ≤ 63 := by rw [← hB.out]; exact bl_le (by simpa using h)
  rw [hB.out]
  go_enter Try.func36, Try.ntmps36
  go_wp2
  go_loop [0, 3] (fun x o => ∃ (q k : Nat), q ≤ p ∧ k ≤ Bp ∧ x = .int .i64 q ∧ o = .int .i64 ((k : Int) - 1) ∧ Hid (k + bl q = Bp)) (fun x _ => (intOf x).toNat)
  case atStart => exact ⟨p, 0, Nat.le_refl _, Nat.zero_le _, rfl, rfl, Lib.hid (by rw [hB.out]; omega)⟩
  case round =>
    obtain ⟨q, k, hq, hk, rfl, rfl, hst⟩ := hrel
    by_cases hz : q = 0
    · subst hz
      have hke : k = Bp := by have := hst.out; rw [bl_zero] at this; omega
      subst hke
      go_wp2
      go_ret
      exact ⟨rfl, rfl⟩
    · have hh := bl_half hz
      have hp := bl_pos hz
      have hk2 : k + 1 ≤ Bp := by have := hst.out; omega
      have HST : Hid (k + 1 + bl (q / 2) = Bp) := Lib.hid (by have := hst.out; omega)
      have hq0 : 0 < (q : Int) := by omega
      have hd : (q : Int) / 2 = ((q / 2 : Nat) : Int) := rfl
      have HD := Lib.hid hd
      clear hh hp hd
      go_wp2
      go_round
      case rel => exact ⟨q / 2, k + 1, by omega, hk2, by rw [← HD.out], by go_num, HST⟩
      case measure => simp [intOf]; omega
theorem R8Number_any (a : Option Addr) (len cap : Nat) (zs : List Int) (n : Int) (w : World) (h : IsRow .u8 w a len cap zs) (n0 : 1 ≤ n) (n1 : n ≤ 100000000000) :
    Calls Try.prog 34 #[.slice a len cap, .int .i64 n] w fun e w' => ∃ x : Int, e = .returned (.int .i64 x) ∧ 0 ≤ x ∧ x < n ∧ Below w.heap.size w w' := by
  have hcode := CodeAt.of h
  have HC := Lib.hid hcode
  clear hcode h
  go_enter Try.func34, Try.ntmps34
  go_wp2_with fail
  refine (l00From_any a len cap _).mono ?_
  rintro e w1 ⟨rfl, hs1, hb1, hz1⟩
  have HS1 := Lib.hid hs1
  have HB1 := Lib.hid hb1
  have HC1 := Lib.hid (HC.out.later hb1)
  clear hs1 hb1
  go_wp2_with fail
  refine (pick_any n w.heap.size w.heap.size a len cap zs 0 0 _ HS1.out HC1.out (Nat.le_refl _) (by omega) n0 n1).mono ?_
  rintro e w2 ⟨x, s2, t2, rfl, x0, x1, ht2, hs2, hf2⟩
  have HF2 := Lib.hid hf2
  clear hs2 hf2
  go_wp2
  go_ret
  exact ⟨x, rfl, x0, x1, HB1.out.trans (HF2.out.below (Nat.le_refl _) (by omega))⟩
end Go.Proofs.Ytkepnjdomlfpdaa
