/-
  Contracts of ratios: from fractions, lowest terms, sums, products. Conditions stand in each contract.
-/
import Derived.Test.YthkmhpkoanmbkaaDoorN11
import Derived.Deep.RegionHeld3
import Derived.RegionTactic
import Derived.BigRegion
import Derived.ChangeAlike
namespace Go.Proofs.YthkmhpkoanmbkaaDoor
open Go.RowKit
set_option linter.unusedVariables false

def sg (neg : Bool) (m : Int) : Int := if neg = true then -m else m
/-- A ratio handed back: a sign and two numbers. -/
def RetR (neg : Bool → Prop) (m n : Int) (w : World) (e : Ending) (w' : World) : Prop :=
  ∃ s a ca xs b cb ys, e = .returned (.agg #[.bool s, .slice a (List.length xs) ca, .slice b (List.length ys) cb]) ∧ neg s ∧ NatU w' a ca xs m ∧ NatU w' b cb ys n ∧ Below w.heap.size w w'
def NoU (cs : Array Value) : Prop := ∀ v ∈ cs.toList, ∀ z, v ≠ .int .u32 z
/-- A store into a block without digits. -/
theorem NatU.apart {w w' : World} {a : Option Addr} {c : Nat} {xs : List Int} {m : Int} {b : Nat} {cs : Array Value} {t : TypeId} (h : NatU w a c xs m) (hb : Blk w b cs t) (hn : NoU cs) (hu : Upd b w w') : NatU w' a c xs m := by
  refine { h with has := ⟨h.has.1, h.has.2.1, h.has.2.2.1, fun g o e => ?_⟩ }
  obtain ⟨h1, h2⟩ := h.has.2.2.2 g o e
  refine ⟨by rw [hu.size]; exact h1, fun j hj => ?_⟩
  have h3 := h2 j hj
  by_cases hg : g = b
  · subst hg
    rw [cell_of_row _ _ _ _ _ _ hb] at h3
    exfalso
    exact hn _ (Array.mem_toList_iff.2 (Array.mem_of_getElem? h3)) _ rfl
  · rw [← h3]
    unfold World.cell?
    rw [hu.rest g hg]
theorem rat_free {s : Bool} {a b : Option Addr} {n m ca cb : Nat} : NoU #[Value.bool s, .slice a n ca, .slice b m cb] := by
  intro v hv z
  simp at hv
  rcases hv with rfl | rfl | rfl <;> simp
theorem upd3 (w : World) (g : Nat) (x y z : Value) : Upd g w (((w.setCell ⟨g, 0, none⟩ x).setCell ⟨g, 1, none⟩ y).setCell ⟨g, 2, none⟩ z) := by
  have h1 := Upd.setCell w g 0 x
  have h2 := Upd.setCell (w.setCell ⟨g, 0, none⟩ x) g 1 y
  have h3 := Upd.setCell ((w.setCell ⟨g, 0, none⟩ x).setCell ⟨g, 1, none⟩ y) g 2 z
  exact ⟨h3.os.trans (h2.os.trans h1.os), h3.tape.trans (h2.tape.trans h1.tape), h3.output.trans (h2.output.trans h1.output), h3.size.trans (h2.size.trans h1.size), fun i hi => (h3.rest i hi).trans ((h2.rest i hi).trans (h1.rest i hi))⟩
set_option maxRecDepth 100000 in
theorem ratioOf_any (n d : Int) (w : World) (h0 : -1000000000000000000 ≤ n) (h1 : n ≤ 1000000000000000000) (d0 : 0 ≤ d) (d1 : d ≤ 1000000000000000000) :
    Calls Tryd.prog 25 #[.agg #[.int .i64 n, .int .i64 d]] w fun e w' => RetR (fun s => s = decide (n < 0)) (absI n) d w e w' := by
  have a0 := absI_nonneg n
  have a1 := absI_le h0 h1
  have l0 : w.heap.size < w.heap.size + 1 + 1 := by omega
  have l1 : w.heap.size + 1 < w.heap.size + 1 + 1 := by omega
  have n0 : ¬ w.heap.size = w.heap.size + 1 := by omega
  have n1 : ¬ w.heap.size + 1 = w.heap.size := by omega
  go_enter Tryd.func25, Tryd.ntmps25
  go_wp2_with fail
  go_region_held3 (fun w' => w'.cell? ⟨w.heap.size, 0, none⟩ = some (.int .i64 n) ∧ w'.cell? ⟨w.heap.size, 1, none⟩ = some (.int .i64 d)) (go_keep)
    (first
      | (go_at_call 32; refine (size_any n _ h0 h1).mono ?_; rintro e w0 ⟨rfl, rfl⟩)
      | (go_at_call 46; (with_reducible refine (naturalOf_any (absI n) _ a0 (by omega)).mono ?_); rintro e w1 ⟨p1, c1, x1, rfl, hn1, hb1⟩; have k1 : Blk w1 w.heap.size #[.int .i64 n, .int .i64 d] 25 := Blk.later (((Blk.new w _ _).alloc _).drew) hb1; have q10 := k1.cell 0 rfl; have q11 := k1.cell 1 rfl; have r1 : Blk w1 (w.heap.size + 1) #[.bool false, .slice none 0 0, .slice none 0 0] 49 := Blk.later (Blk.drew (Blk.new' (by simp) _ _)) hb1)
      | (go_at_call 46; (with_reducible refine (naturalOf_any d _ d0 (by omega)).mono ?_); rintro e w2 ⟨p2, c2, x2, rfl, hn2, hb2⟩; have k2 := k1.later hb2; have q20 := k2.cell 0 rfl; have q21 := k2.cell 1 rfl; have r2 := r1.later hb2; have g0 := r2.cell 0 rfl; have g1 := r2.cell 1 rfl; have g2 := r2.cell 2 rfl; have e0 := r2.free 0; have e1 := r2.free 1; have e2 := r2.free 2))
  go_wp2
  refine bodyPost_ret (v := .agg #[.bool (decide (n < 0)), .slice p1 x1.length c1, .slice p2 x2.length c2]) (by simp [results, Tryd.results25, go_sem, g0, g1, g2]) rfl ?_
  refine ⟨decide (n < 0), p1, c1, x1, p2, c2, x2, rfl, rfl, (hn1.later hb2).apart r2 rat_free (upd3 ..), hn2.apart r2 rat_free (upd3 ..), ?_⟩
  exact (bw_call (bw_call (bw_drew (bw_alloc (bw_alloc (bw_refl _) _) _)) hb1) hb2).trans ((upd3 w2 (w.heap.size + 1) _ _ _).below (by omega))
theorem whole_zero (w : World) :
    Calls Tryd.prog 54 #[.int .i64 0] w fun e w' => RetR (fun s => s = false) 0 1 w e w' := by
  go_enter Tryd.func54, Tryd.ntmps54
  go_wp2_with fail
  refine (ratioOf_any 0 1 _ (by omega) (by omega) (by omega) (by omega)).mono ?_
  rintro e w1 ⟨s, a, ca, xs, b, cb, ys, rfl, hs, hn1, hn2, hb⟩
  have k1 : Blk w1 w.heap.size #[.bool false, .slice none 0 0, .slice none 0 0] 49 := Blk.later (Blk.new w _ _) hb
  have g0 := k1.cell 0 rfl
  have g1 := k1.cell 1 rfl
  have g2 := k1.cell 2 rfl
  have e0 := k1.free 0
  have e1 := k1.free 1
  have e2 := k1.free 2
  subst hs
  have HB := Lib.hid hb
  have K1 := Lib.hid k1
  have N1 := Lib.hid hn1
  have N2 := Lib.hid hn2
  clear hb k1 hn1 hn2
  go_wp2
  refine bodyPost_ret (v := .agg #[.bool false, .slice a xs.length ca, .slice b ys.length cb]) (by simp [results, Tryd.results54, go_sem, g0, g1, g2]) rfl ?_
  refine ⟨false, a, ca, xs, b, cb, ys, rfl, rfl, N1.out.apart K1.out rat_free (upd3 ..), N2.out.apart K1.out rat_free (upd3 ..), ?_⟩
  exact (bw_call (bw_alloc (bw_refl _) _) HB.out).trans ((upd3 w1 w.heap.size _ _ _).below (Nat.le_refl _))
set_option maxRecDepth 100000 in
theorem lowest_any (neg : Bool) (a b : Option Addr) (ca cb : Nat) (xs ys : List Int) (m n : Int) (w : World) (ha : NatU w a ca xs m) (hb : NatU w b cb ys n) (hm : m < bp 200) (hn : n < bp 200) (h0 : 0 < n) :
    Calls Tryd.prog 42 #[.agg #[.bool neg, .slice a xs.length ca, .slice b ys.length cb]] w fun e w' => RetR (fun s => s = (neg && !(m == 0))) (m / gcdI m n) (n / gcdI m n) w e w' := by
  by_cases hx : xs.length = 0
  · have hz : m = 0 := by
      have := List.eq_nil_of_length_eq_zero hx
      subst this
      rw [← ha.eq]; rfl
    subst hz
    have e1 : gcdI 0 n = n := by
      have := gcdI_step (a := 0) (b := n) (by omega) h0
      rw [Int.zero_emod, gcdI_zero (by omega)] at this
      exact this.symm
    rw [e1, Int.zero_ediv, Int.ediv_self (by omega)]
    rw [hx]
    clear e1 ha hb hm hn h0 hx
    go_enter Tryd.func42, Tryd.ntmps42
    go_wp2_with fail
    refine (whole_zero _).mono ?_
    rintro e w1 ⟨s, a1, c1, x1, b1, d1, y1, rfl, hs, hn1, hn2, hb⟩
    have k1 : Blk w1 (w.heap.size + 1) #[.bool false, .slice none 0 0, .slice none 0 0] 49 := Blk.later (Blk.new' (by simp) _ _) hb
    have g0 := k1.cell 0 rfl
    have g1 := k1.cell 1 rfl
    have g2 := k1.cell 2 rfl
    have e0 := k1.free 0
    have e1 := k1.free 1
    have e2 := k1.free 2
    subst hs
    have HB := Lib.hid hb
    have K1 := Lib.hid k1
    have N1 := Lib.hid hn1
    have N2 := Lib.hid hn2
    clear hb k1 hn1 hn2
    go_wp2
    refine bodyPost_ret (v := .agg #[.bool false, .slice a1 x1.length c1, .slice b1 y1.length d1]) (by simp [results, Tryd.results42, go_sem, g0, g1, g2]) rfl ?_
    refine ⟨false, a1, c1, x1, b1, d1, y1, rfl, by simp, N1.out.apart K1.out rat_free (upd3 ..), N2.out.apart K1.out rat_free (upd3 ..), ?_⟩
    exact (bw_call (bw_alloc (bw_alloc (bw_refl _) _) _) HB.out).trans ((upd3 w1 (w.heap.size + 1) _ _ _).below (by omega))
  · have hm0 : 0 < m := by
      have h1 := norm_low ha.dig ha.norm hx
      have h2 := bp_pos (xs.length - 1)
      rw [ha.eq] at h1
      omega
    have hz : (m == 0) = false := by simp; omega
    have hg := gcdI_pos (a := m) (b := n) (by omega) h0
    have l1 := ha.lenle hm
    have l2 := hb.lenle hn
    obtain ⟨X, HX⟩ : ∃ X, Hid (xs.length = X) := ⟨_, Lib.hid rfl⟩
    obtain ⟨Y, HY⟩ : ∃ X, Hid (ys.length = X) := ⟨_, Lib.hid rfl⟩
    have HA := Lib.hid ha
    have HBn := Lib.hid hb
    have HM := Lib.hid hm
    have HN := Lib.hid hn
    have HG := Lib.hid hg
    rw [HX.out] at hx l1
    rw [HY.out] at l2
    have hX : ¬ (X : Int) = 0 := by omega
    rw [hz, HX.out, HY.out]
    clear ha hb hm hn hz hg hx
    go_enter Tryd.func42, Tryd.ntmps42
    go_wp2_with fail
    have hsh := shared_any xs ys a b ca cb m n ((w.alloc (.cells #[.bool neg, .slice a X ca, .slice b Y cb] 49)).alloc (.cells #[.bool false, .slice none 0 0, .slice none 0 0] 49)) (HA.out.later (bw_alloc (bw_alloc (bw_refl _) _) _)) (HBn.out.later (bw_alloc (bw_alloc (bw_refl _) _) _)) HM.out HN.out
    rw [HX.out, HY.out] at hsh
    refine hsh.mono ?_
    clear hsh
    rintro e w1 ⟨ga, gc, gx, rfl, hg1, hb1⟩
    have K1 := Lib.hid (Blk.later ((Blk.new w #[.bool neg, .slice a X ca, .slice b Y cb] 49).alloc _) hb1)
    have R1 := Lib.hid (Blk.later (Blk.new' (b := w.heap.size + 1) (w := w.alloc (.cells #[.bool neg, .slice a X ca, .slice b Y cb] 49)) (by simp) #[.bool false, .slice none 0 0, .slice none 0 0] 49) hb1)
    have B1 := Lib.hid (bw_call (bw_alloc (bw_alloc (bw_refl w) _) _) hb1)
    have GN := Lib.hid hg1
    have HA1 := Lib.hid (HA.out.later B1.out)
    have HB1 := Lib.hid (HBn.out.later B1.out)
    clear hb1 hg1
    have f0 := K1.out.cell 0 rfl
    have f1 := K1.out.cell 1 rfl
    have f2 := K1.out.cell 2 rfl
    have lg := GN.out.lenle (k := 200) (Int.lt_of_le_of_lt HG.out.2 HN.out)
    go_wp2_with fail
    have hov := over_any xs gx a ga ca gc m (gcdI m n) w1 HA1.out GN.out ⟨by rw [HX.out]; omega, by omega⟩ HG.out.1
    rw [HX.out] at hov
    refine hov.mono ?_
    clear hov
    rintro e w2 ⟨a1, c1, z1, a2, c2, z2, rfl, hn1, hn2, hb2⟩
    have K2 := Lib.hid (K1.out.later hb2)
    have R2 := Lib.hid (R1.out.later hb2)
    have B2 := Lib.hid (bw_call B1.out hb2)
    have GN2 := Lib.hid (GN.out.later hb2)
    have HB2 := Lib.hid (HB1.out.later hb2)
    have Q1 := Lib.hid hn1
    clear hn1 hn2 hb2 f0 f1 f2 K1 R1 B1 GN HA1 HB1
    have f0 := K2.out.cell 0 rfl
    have f1 := K2.out.cell 1 rfl
    have f2 := K2.out.cell 2 rfl
    have e1 := K2.out.free 1
    have nR : ¬ w.heap.size = w.heap.size + 1 := by omega
    have nR2 : ¬ w.heap.size + 1 = w.heap.size := by omega
    go_wp2_with fail
    obtain ⟨w3, hw3⟩ : ∃ w3, w2.setCell ⟨w.heap.size, 1, none⟩ (.slice a1 z1.length c1) = w3 := ⟨_, rfl⟩
    have U3 := Upd.setCell w2 w.heap.size 1 (.slice a1 z1.length c1)
    rw [hw3] at U3
    have K3 : Hid (Blk w3 w.heap.size #[.bool neg, .slice a1 z1.length c1, .slice b Y cb] 49) := Lib.hid (by rw [← hw3]; exact K2.out.set 1 _)
    have R3 := Lib.hid (show Blk w3 (w.heap.size + 1) #[.bool false, .slice none 0 0, .slice none 0 0] 49 by rw [← hw3]; exact R2.out.far (by simp) _)
    have B3 := Lib.hid (B2.out.trans (U3.below (Nat.le_refl _)))
    have GN3 := Lib.hid (GN2.out.apart K2.out rat_free U3)
    have HB3 := Lib.hid (HB2.out.apart K2.out rat_free U3)
    have Q3 := Lib.hid (Q1.out.apart K2.out rat_free U3)
    have hov := over_any ys gx b ga cb gc n (gcdI m n) w3 HB3.out GN3.out ⟨by rw [HY.out]; omega, by omega⟩ HG.out.1
    rw [HY.out] at hov
    rw [hw3]
    clear hw3 U3 K2 R2 B2 GN2 HB2 Q1 f0 f1 f2 e1
    refine hov.mono ?_
    clear hov
    rintro e w4 ⟨a3, c3, z3, a4, c4, z4, rfl, hn3, hn4, hb4⟩
    have K4 := Lib.hid (K3.out.later hb4)
    have R4 := Lib.hid (R3.out.later hb4)
    have B4 := Lib.hid (bw_call B3.out hb4)
    have Q4 := Lib.hid (Q3.out.later hb4)
    have P4 := Lib.hid hn3
    clear hn3 hn4 hb4 K3 R3 B3 GN3 HB3 Q3
    have f0 := K4.out.cell 0 rfl
    have f1 := K4.out.cell 1 rfl
    have f2 := K4.out.cell 2 rfl
    have e2 := K4.out.free 2
    have g0 := R4.out.cell 0 rfl
    have g1 := R4.out.cell 1 rfl
    have g2 := R4.out.cell 2 rfl
    have d0 := R4.out.free 0
    have d1 := R4.out.free 1
    have d2 := R4.out.free 2
    go_wp2
    refine bodyPost_ret (v := .agg #[.bool neg, .slice a1 z1.length c1, .slice a3 z3.length c3]) (by simp [results, Tryd.results42, go_sem, g0, g1, g2]) rfl ?_
    have U5 := Upd.setCell w4 w.heap.size 2 (.slice a3 z3.length c3)
    obtain ⟨w5, hw5⟩ : ∃ w5, w4.setCell ⟨w.heap.size, 2, none⟩ (.slice a3 z3.length c3) = w5 := ⟨_, rfl⟩
    rw [hw5] at U5
    have R5 := Lib.hid (show Blk w5 (w.heap.size + 1) #[.bool false, .slice none 0 0, .slice none 0 0] 49 by rw [← hw5]; exact R4.out.far (by simp) _)
    rw [hw5]
    refine ⟨neg, a1, c1, z1, a3, c3, z3, rfl, by simp, (Q4.out.apart K4.out rat_free U5).apart R5.out rat_free (upd3 ..), (P4.out.apart K4.out rat_free U5).apart R5.out rat_free (upd3 ..), ?_⟩
    exact (B4.out.trans (U5.below (Nat.le_refl _))).trans ((upd3 w5 (w.heap.size + 1) _ _ _).below (by omega))
end Go.Proofs.YthkmhpkoanmbkaaDoor
