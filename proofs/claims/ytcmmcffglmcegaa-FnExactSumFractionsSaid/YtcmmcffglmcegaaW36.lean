/-
  Walk of the law FnExactSumFractions: it returns true for every list. No condition beyond where the list was laid.
-/
import Derived.Test.YtcmmcffglmcegaaS9
import Derived.Test.YtcmmcffglmcegaaN19
namespace Go.Proofs.Ytcmmcffglmcegaa
open Go.RowKit
set_option linter.unusedVariables false

theorem LayF.mk {w : World} {x : Addr} {len : Nat} {V0 V1 : Nat → Value} (h : ∀ i, i < len → w.cell? (x.add (i * 2)) = some (V0 i) ∧ w.cell? (x.add (i * 2 + 1)) = some (V1 i) ∧ (∃ z, V0 i = .int .i64 z) ∧ (∃ z, V1 i = .int .i64 z)) : ∃ fs, LayF w (some x) len fs := by
  refine ⟨(List.range len).map fun i => (intOf (V0 i), intOf (V1 i)), by simp, fun h0 => ?_⟩
  obtain ⟨b, off, spot⟩ := x
  have hc := (h 0 h0).1
  have hspot : spot = none := by simpa [Addr.add] using World.cell?_spot hc
  subst hspot
  have hb : b < w.heap.size := by simpa [Addr.add] using World.block_lt_of_cell? w _ hc
  refine ⟨b, off, rfl, hb, fun j hj => ?_⟩
  obtain ⟨h1, h2, ⟨z0, e0⟩, ⟨z1, e1⟩⟩ := h j hj
  have e : ∀ k, (⟨b, off, none⟩ : Addr).add k = ⟨b, off + k, none⟩ := fun k => by unfold Addr.add; split <;> simp_all
  rw [e, e0] at h1
  rw [e, e1] at h2
  have g : ((List.range len).map fun i => (intOf (V0 i), intOf (V1 i))).getD j (0, 0) = (z0, z1) := by
    simp [List.getD, hj, e0, e1, intOf]
  rw [g, Nat.mul_comm 2 j]
  exact ⟨h1, h2⟩
set_option maxRecDepth 100000 in
theorem FnExactSumFractions_walk (a : Option Addr) (len cap : Nat) (fs : List (Int × Int)) (w : World) (h : LayF w a len fs) (hm : len ≤ maxLen) :
    Calls Try.prog 8 #[.slice a len cap] w fun r w' => r = .returned (.bool true) ∧ Below w.heap.size w w' := by
  have H := Lib.hid h
  have HSZ : Hid (∀ W, Calls Try.prog 21 #[.slice a len cap, .int .i64 1048576] W fun r w' => r = .returned (.int .i64 (if 1048576 - (len : Int) < 0 then -1 else 1048576 - len)) ∧ W = w') := Lib.hid fun W => szFractionS_any a len cap 1048576 W (by omega) hm
  clear h hm
  by_cases hl : len ≤ 1048576
  · have c0 : ¬ 1048576 - (len : Int) < 0 := by omega
    rw [if_neg c0] at HSZ
    obtain ⟨lf, hlf⟩ : ∃ x, Hid (1048576 - (len : Int) = x) := ⟨_, Lib.hid rfl⟩
    rw [hlf.out] at HSZ c0
    have c1 : decide (lf < 0) = false := decide_eq_false c0
    have HL : Hid (fs.length = len) := Lib.hid H.out.1
    obtain ⟨S, hS⟩ : ∃ S, Hid (sumA fs = S) := ⟨_, Lib.hid rfl⟩
    obtain ⟨p, hp⟩ : ∃ x, Hid ((S.getD (0, 0)).1 = x) := ⟨_, Lib.hid rfl⟩
    obtain ⟨q, hq⟩ : ∃ x, Hid ((S.getD (0, 0)).2 = x) := ⟨_, Lib.hid rfl⟩
    obtain ⟨b, hb⟩ : ∃ x, Hid (S.isSome = x) := ⟨_, Lib.hid rfl⟩
    have HTO : Hid (∀ W, Below w.heap.size w W → w.heap.size ≤ W.heap.size → Calls Try.prog 23 #[.slice a len cap] W fun e w' => ∃ a' c', e = .returned (.slice a' len c') ∧ HasF w' a' fs ∧ Below W.heap.size W w') := Lib.hid fun W hb _ => (toFractionS_any a len cap fs W (H.out.later hb) hl).mono fun e w' ⟨a', c', h1, h2, h3⟩ => ⟨a', c', by rw [← HL.out]; exact h1, h2, h3⟩
    have HSP : Hid (∀ W a' c', HasF W a' fs → Calls Try.prog 22 #[.slice a' len c'] W fun r w' => r = .returned (.tuple #[.agg #[.int .i64 p, .int .i64 q], .bool b]) ∧ Below W.heap.size W w') := Lib.hid fun W a' c' h => by
      rw [← hp.out, ← hq.out, ← hb.out, ← hS.out, ← HL.out]; exact sSumFractions_any fs a' c' W h (by rw [HL.out]; omega)
    have HIM : Hid (∀ W a' c', HasF W a' fs → Calls Try.prog 24 #[.slice a' len c'] W fun r w' => r = .returned (.tuple #[.agg #[.int .i64 p, .int .i64 q], .bool b]) ∧ Below W.heap.size W w') := Lib.hid fun W a' c' h => by
      rw [← hp.out, ← hq.out, ← hb.out, ← hS.out, ← HL.out]; exact SumFractions_any fs a' c' W h (by rw [HL.out]; omega)
    have HEQ : Hid (∀ W a1 c1 a2 c2, HasF W a1 fs → HasF W a2 fs → Calls Try.prog 25 #[.slice a1 len c1, .slice a2 len c2] W fun r w' => r = .returned (.bool true) ∧ Below W.heap.size W w') := Lib.hid fun W a1 c1 a2 c2 h1 h2 => by
      rw [← HL.out]; exact eqFractionS_same fs a1 a2 c1 c2 W h1 h2 (by rw [HL.out]; omega)
    clear hl
    go_enter Try.func8, Try.ntmps8
    go_wp2_with fail
    refine (HSZ.out _).mono ?_
    rintro r w1 ⟨rfl, rfl⟩
    go_wp2_with fail
    refine (HTO.out _ (bw_refl w) (Nat.le_refl _)).mono ?_
    rintro r w1 ⟨a1, k1, rfl, h1, hb1⟩
    have A1 := Lib.hid h1
    have B1 := Lib.hid hb1
    clear h1 hb1
    go_wp2_with fail
    refine (HSP.out _ a1 k1 A1.out).mono ?_
    rintro r w2 ⟨rfl, hb2⟩
    have B2 := Lib.hid (bw_call B1.out hb2)
    clear hb2 A1 B1
    go_wp2_with fail
    refine (HTO.out _ (bw_alloc B2.out _) (by have := B2.out.size; simp; omega)).mono ?_
    rintro r w3 ⟨a3, k3, rfl, h3, hb3⟩
    have A3 := Lib.hid h3
    have W3 := Lib.hid (show Blk w3 w2.heap.size #[.int .i64 p, .int .i64 q] 24 from (Blk.new w2 _ _).later hb3)
    have B3 := Lib.hid (bw_call (bw_alloc B2.out _) hb3)
    clear h3 hb3 B2
    go_wp2_with fail
    refine (HIM.out _ a3 k3 A3.out).mono ?_
    rintro r w4 ⟨rfl, hb4⟩
    have A4 := Lib.hid (A3.out.later hb4)
    have W4 := Lib.hid (W3.out.later hb4)
    have B4 := Lib.hid (bw_call B3.out hb4)
    clear hb4 A3 B3 W3
    have s0 := W4.out.cell 0 rfl
    have s1 := W4.out.cell 1 rfl
    have l4 := W4.out.lt
    have n1 : ¬ w2.heap.size = w4.heap.size := by omega
    have n2 : ¬ w4.heap.size = w2.heap.size := by omega
    go_wp2_with fail
    refine (eqFraction_same p q _).mono ?_
    rintro r w5 ⟨rfl, hb5⟩
    have A5 := Lib.hid ((A4.out.later (bw_alloc (bw_refl _) _)).later hb5)
    have B5 := Lib.hid (bw_call (bw_alloc B4.out _) hb5)
    clear hb5 A4 B4 W4 s0 s1 n1 n2 l4
    go_wp2_with fail
    refine (HTO.out _ B5.out (by exact B5.out.size)).mono ?_
    rintro r w6 ⟨a6, k6, rfl, h6, hb6⟩
    have A6 := Lib.hid (A5.out.later hb6)
    have C6 := Lib.hid h6
    have B6 := Lib.hid (bw_call B5.out hb6)
    clear hb6 h6 A5 B5
    go_wp2_with fail
    refine (HEQ.out _ a3 k3 a6 k6 A6.out C6.out).mono ?_
    rintro r w7 ⟨rfl, hb7⟩
    have B7 := Lib.hid (bw_call B6.out hb7)
    clear hb7
    go_wp2
    go_ret
    exact ⟨rfl, B7.out⟩
  · have c0 : 1048576 - (len : Int) < 0 := by omega
    rw [if_pos c0] at HSZ
    clear hl c0
    go_enter Try.func8, Try.ntmps8
    go_wp2_with fail
    refine (HSZ.out _).mono ?_
    rintro r w1 ⟨rfl, rfl⟩
    go_wp2
    go_ret
    exact ⟨rfl, bw_refl _⟩
end Go.Proofs.Ytcmmcffglmcegaa
