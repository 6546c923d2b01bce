/-
  Contracts of ratios: products, quotients, the other sign, fractions. Conditions stand in each contract.
-/
import Derived.Test.YthkmhpkoanmbkaaDoorN12
namespace Go.Proofs.YthkmhpkoanmbkaaDoor
open Go.RowKit
set_option linter.unusedVariables false

theorem bp_mul_lt {m n : Int} {j k : Nat} (hm : m < bp j) (hn : n < bp k) (m0 : 0 ≤ m) (n0 : 0 ≤ n) : m * n < bp (j + k) := by
  rw [bp_add]
  have h1 : m * n ≤ m * bp k := Int.mul_le_mul_of_nonneg_left (by omega) m0
  have h2 : (m + 1) * bp k ≤ bp j * bp k := Int.mul_le_mul_of_nonneg_right (by omega) (by have := bp_pos k; omega)
  rw [Int.add_mul] at h2
  have := bp_pos k
  omega
/-- A ratio's value in memory. -/
structure RatV (w : World) (a : Option Addr) (ca : Nat) (xs : List Int) (b : Option Addr) (cb : Nat) (ys : List Int) (m n : Int) : Prop where
  num : NatU w a ca xs m
  den : NatU w b cb ys n
  pos : 0 < n
theorem RatV.later {w w' : World} {a : Option Addr} {ca : Nat} {xs : List Int} {b : Option Addr} {cb : Nat} {ys : List Int} {m n : Int} (h : RatV w a ca xs b cb ys m n) (hb : Below w.heap.size w w') : RatV w' a ca xs b cb ys m n :=
  ⟨h.num.later hb, h.den.later hb, h.pos⟩
theorem NatU.isz {w : World} {a : Option Addr} {c : Nat} {xs : List Int} {m : Int} (h : NatU w a c xs m) : xs.length = 0 ↔ m = 0 := by
  constructor
  · intro hx
    have := List.eq_nil_of_length_eq_zero hx
    subst this
    rw [← h.eq]; rfl
  · intro hm
    by_cases hx : xs.length = 0
    · exact hx
    · have h1 := norm_low h.dig h.norm hx
      have h2 := bp_pos (xs.length - 1)
      rw [h.eq] at h1
      omega
set_option maxRecDepth 100000 in
theorem rtimes_any (s1 s2 : Bool) (a1 b1 a2 b2 : Option Addr) (ca1 cb1 ca2 cb2 : Nat) (x1 y1 x2 y2 : List Int) (m1 n1 m2 n2 : Int) (w : World) (h1 : RatV w a1 ca1 x1 b1 cb1 y1 m1 n1) (h2 : RatV w a2 ca2 x2 b2 cb2 y2 m2 n2) (k1 : m1 < bp 90 ∧ n1 < bp 90) (k2 : m2 < bp 90 ∧ n2 < bp 90) :
    Calls Tryd.prog 23 #[.agg #[.bool s1, .slice a1 x1.length ca1, .slice b1 y1.length cb1], .agg #[.bool s2, .slice a2 x2.length ca2, .slice b2 y2.length cb2]] w fun e w' => RetR (fun s => s = ((s1 != s2) && !(m1 * m2 == 0))) (m1 * m2 / gcdI (m1 * m2) (n1 * n2)) (n1 * n2 / gcdI (m1 * m2) (n1 * n2)) w e w' := by
  have H1 := Lib.hid h1
  have H2 := Lib.hid h2
  have K1 := Lib.hid k1
  have K2 := Lib.hid k2
  clear h1 h2 k1 k2
  have hT1 : ∀ W, Below w.heap.size w W → Calls Tryd.prog 38 #[.slice a1 x1.length ca1, .slice a2 x2.length ca2] W fun e w' => RetN (m1 * m2) W e w' := fun W hB =>
    times_any x1 x2 a1 a2 ca1 ca2 m1 m2 W (H1.out.num.later hB) (H2.out.num.later hB) ⟨by have := H1.out.num.lenle K1.out.1; omega, by have := H2.out.num.lenle K2.out.1; omega⟩
  have hT2 : ∀ W, Below w.heap.size w W → Calls Tryd.prog 38 #[.slice b1 y1.length cb1, .slice b2 y2.length cb2] W fun e w' => RetN (n1 * n2) W e w' := fun W hB =>
    times_any y1 y2 b1 b2 cb1 cb2 n1 n2 W (H1.out.den.later hB) (H2.out.den.later hB) ⟨by have := H1.out.den.lenle K1.out.2; omega, by have := H2.out.den.lenle K2.out.2; omega⟩
  have hL : ∀ (neg : Bool) (a b : Option Addr) (ca cb : Nat) (xs ys : List Int) W, NatU W a ca xs (m1 * m2) → NatU W b cb ys (n1 * n2) → Calls Tryd.prog 42 #[.agg #[.bool neg, .slice a xs.length ca, .slice b ys.length cb]] W fun e w' => RetR (fun s => s = (neg && !(m1 * m2 == 0))) (m1 * m2 / gcdI (m1 * m2) (n1 * n2)) (n1 * n2 / gcdI (m1 * m2) (n1 * n2)) W e w' := fun neg a b ca cb xs ys W hA hB =>
    lowest_any neg a b ca cb xs ys _ _ W hA hB (Int.lt_of_lt_of_le (bp_mul_lt K1.out.1 K2.out.1 H1.out.num.nonneg H2.out.num.nonneg) (bp_mono (by omega))) (Int.lt_of_lt_of_le (bp_mul_lt K1.out.2 K2.out.2 H1.out.den.nonneg H2.out.den.nonneg) (bp_mono (by omega))) (Int.mul_pos H1.out.pos H2.out.pos)
  have n01 : ¬ w.heap.size = w.heap.size + 1 := by omega
  have n10 : ¬ w.heap.size + 1 = w.heap.size := by omega
  have n02 : ¬ w.heap.size = w.heap.size + 1 + 1 := by omega
  have n20 : ¬ w.heap.size + 1 + 1 = w.heap.size := by omega
  have n12 : ¬ w.heap.size + 1 = w.heap.size + 1 + 1 := by omega
  have n21 : ¬ w.heap.size + 1 + 1 = w.heap.size + 1 := by omega
  have l0 : w.heap.size < w.heap.size + 1 + 1 + 1 := by omega
  have l1 : w.heap.size + 1 < w.heap.size + 1 + 1 + 1 := by omega
  have l2 : w.heap.size + 1 + 1 < w.heap.size + 1 + 1 + 1 := by omega
  go_enter Tryd.func23, Tryd.ntmps23
  go_wp2_with fail
  go_region_held3 (fun w' => w'.cell? ⟨w.heap.size, 0, none⟩ = some (.bool s1) ∧ w'.cell? ⟨w.heap.size, 1, none⟩ = some (.slice a1 x1.length ca1) ∧ w'.cell? ⟨w.heap.size, 2, none⟩ = some (.slice b1 y1.length cb1) ∧
      w'.cell? ⟨w.heap.size + 1, 0, none⟩ = some (.bool s2) ∧ w'.cell? ⟨w.heap.size + 1, 1, none⟩ = some (.slice a2 x2.length ca2) ∧ w'.cell? ⟨w.heap.size + 1, 2, none⟩ = some (.slice b2 y2.length cb2)) (go_keep)
    (first
      | (go_at_call 38; (with_reducible refine (hT1 _ (bw_drew (bw_alloc (bw_alloc (bw_alloc (bw_refl _) _) _) _))).mono ?_); rintro e w1 ⟨p1, c1, z1, rfl, hn1, hb1⟩
         have B1 := bw_call (bw_drew (bw_alloc (bw_alloc (bw_alloc (bw_refl w) _) _) _)) hb1
         have E0 : Blk w1 w.heap.size #[.bool s1, .slice a1 x1.length ca1, .slice b1 y1.length cb1] 49 := Blk.later ((((Blk.new w _ _).alloc _).alloc _).drew) hb1
         have E1 : Blk w1 (w.heap.size + 1) #[.bool s2, .slice a2 x2.length ca2, .slice b2 y2.length cb2] 49 := Blk.later (((Blk.new' (by simp) _ _).alloc _).drew) hb1
         have E2 : Blk w1 (w.heap.size + 1 + 1) #[.bool false, .slice none 0 0, .slice none 0 0] 49 := Blk.later (((Blk.new' (by simp) _ _)).drew) hb1
         have q00 := E0.cell 0 rfl; have q01 := E0.cell 1 rfl; have q02 := E0.cell 2 rfl
         have q10 := E1.cell 0 rfl; have q11 := E1.cell 1 rfl; have q12 := E1.cell 2 rfl)
      | (go_at_call 38; (with_reducible refine (hT2 _ B1).mono ?_); rintro e w2 ⟨p2, c2, z2, rfl, hn2, hb2⟩
         have B2 := bw_call B1 hb2
         have E3 := E0.later hb2; have E4 := E1.later hb2; have E5 := E2.later hb2
         have q20 := E3.cell 0 rfl; have q21 := E3.cell 1 rfl; have q22 := E3.cell 2 rfl
         have q30 := E4.cell 0 rfl; have q31 := E4.cell 1 rfl; have q32 := E4.cell 2 rfl)
      | (go_at_call 42; refine (hL _ _ _ _ _ _ _ _ (hn1.later hb2) hn2).mono ?_; rintro e w3 ⟨s3, p3, c3, z3, p4, c4, z4, rfl, hs3, hn3, hn4, hb3⟩
         have HS3 := Lib.hid hs3
         clear hs3
         have B3 := bw_call B2 hb3
         have E6 := E3.later hb3; have E7 := E4.later hb3; have E8 := E5.later hb3
         have q40 := E6.cell 0 rfl; have q41 := E6.cell 1 rfl; have q42 := E6.cell 2 rfl
         have q50 := E7.cell 0 rfl; have q51 := E7.cell 1 rfl; have q52 := E7.cell 2 rfl
         have g0 := E8.cell 0 rfl; have g1 := E8.cell 1 rfl; have g2 := E8.cell 2 rfl
         have e0 := E8.free 0; have e1 := E8.free 1; have e2 := E8.free 2))
  go_wp2
  refine bodyPost_ret (v := .agg #[.bool s3, .slice p3 z3.length c3, .slice p4 z4.length c4]) (by simp [results, Tryd.results23, go_sem, g0, g1, g2]) rfl ?_
  refine ⟨s3, p3, c3, z3, p4, c4, z4, rfl, HS3.out, hn3.apart E8 rat_free (upd3 ..), hn4.apart E8 rat_free (upd3 ..), ?_⟩
  exact B3.trans ((upd3 w3 (w.heap.size + 1 + 1) _ _ _).below (by omega))
set_option maxRecDepth 100000 in
theorem rover_any (s1 s2 : Bool) (a1 b1 a2 b2 : Option Addr) (ca1 cb1 ca2 cb2 : Nat) (x1 y1 x2 y2 : List Int) (m1 n1 m2 n2 : Int) (w : World) (h1 : RatV w a1 ca1 x1 b1 cb1 y1 m1 n1) (h2 : RatV w b2 cb2 y2 a2 ca2 x2 n2 m2) (k1 : m1 < bp 90 ∧ n1 < bp 90) (k2 : m2 < bp 90 ∧ n2 < bp 90) :
    Calls Tryd.prog 33 #[.agg #[.bool s1, .slice a1 x1.length ca1, .slice b1 y1.length cb1], .agg #[.bool s2, .slice a2 x2.length ca2, .slice b2 y2.length cb2]] w fun e w' => RetR (fun s => s = ((s1 != s2) && !(m1 * n2 == 0))) (m1 * n2 / gcdI (m1 * n2) (n1 * m2)) (n1 * m2 / gcdI (m1 * n2) (n1 * m2)) w e w' := by
  have H1 := Lib.hid h1
  have H2 := Lib.hid h2
  have K1 := Lib.hid k1
  have K2 := Lib.hid k2
  clear h1 h2 k1 k2
  go_enter Tryd.func33, Tryd.ntmps33
  go_wp2_with fail
  refine (rtimes_any s1 s2 a1 b1 b2 a2 ca1 cb1 cb2 ca2 x1 y1 y2 x2 m1 n1 n2 m2 _ (H1.out.later (bw_alloc (bw_alloc (bw_alloc (bw_refl _) _) _) _)) (H2.out.later (bw_alloc (bw_alloc (bw_alloc (bw_refl _) _) _) _)) K1.out ⟨K2.out.2, K2.out.1⟩).mono ?_
  rintro e w3 ⟨s3, p3, c3, z3, p4, c4, z4, rfl, hs3, hn3, hn4, hb3⟩
  have E8 : Blk w3 (w.heap.size + 1 + 1) #[.bool false, .slice none 0 0, .slice none 0 0] 49 := Blk.later (Blk.new' (by simp) _ _) hb3
  have B3 := Lib.hid (bw_call (bw_alloc (bw_alloc (bw_alloc (bw_refl _) _) _) _) hb3)
  have HS3 := Lib.hid hs3
  have N3 := Lib.hid hn3
  have N4 := Lib.hid hn4
  clear hs3 hn3 hn4 hb3
  have g0 := E8.cell 0 rfl
  have g1 := E8.cell 1 rfl
  have g2 := E8.cell 2 rfl
  have e0 := E8.free 0
  have e1 := E8.free 1
  have e2 := E8.free 2
  go_wp2
  refine bodyPost_ret (v := .agg #[.bool s3, .slice p3 z3.length c3, .slice p4 z4.length c4]) (by simp [results, Tryd.results33, go_sem, g0, g1, g2]) rfl ?_
  refine ⟨s3, p3, c3, z3, p4, c4, z4, rfl, HS3.out, N3.out.apart E8 rat_free (upd3 ..), N4.out.apart E8 rat_free (upd3 ..), ?_⟩
  exact B3.out.trans ((upd3 w3 (w.heap.size + 1 + 1) _ _ _).below (by omega))
set_option maxRecDepth 100000 in
theorem opposite_any (s : Bool) (a b : Option Addr) (ca cb : Nat) (xs ys : List Int) (m n : Int) (w : World) (h : RatV w a ca xs b cb ys m n) :
    Calls Tryd.prog 43 #[.agg #[.bool s, .slice a xs.length ca, .slice b ys.length cb]] w fun e w' => e = .returned (.agg #[.bool (!s && !(m == 0)), .slice a xs.length ca, .slice b ys.length cb]) ∧ Below w.heap.size w w' := by
  cases s with
  | true =>
    go_enter Tryd.func43, Tryd.ntmps43
    go_wp2
    refine bodyPost_ret (v := .agg #[.bool false, .slice a xs.length ca, .slice b ys.length cb]) (by simp [results, Tryd.results43, go_sem]) rfl ⟨by simp, bw_alloc (bw_alloc (bw_refl _) _) _⟩
  | false =>
    by_cases hx : xs.length = 0
    · have hm := h.num.isz.1 hx
      subst hm
      rw [hx]
      clear hx h
      go_enter Tryd.func43, Tryd.ntmps43
      go_wp2
      refine bodyPost_ret (v := .agg #[.bool false, .slice a 0 ca, .slice b ys.length cb]) (by simp [results, Tryd.results43, go_sem]) rfl ⟨by simp, bw_alloc (bw_alloc (bw_refl _) _) _⟩
    · have hm : (m == 0) = false := by
        rw [beq_eq_false_iff_ne]
        exact fun e => hx (h.num.isz.2 e)
      rw [hm]
      have hx2 : (0 : Int) < (xs.length : Int) := by omega
      clear hx h hm
      go_enter Tryd.func43, Tryd.ntmps43
      go_wp2
      refine bodyPost_ret (v := .agg #[.bool true, .slice a xs.length ca, .slice b ys.length cb]) (by simp [results, Tryd.results43, go_sem]; omega) rfl ⟨by simp, bw_alloc (bw_alloc (bw_refl _) _) _⟩
theorem isZero_any (s : Bool) (a b : Option Addr) (ca cb : Nat) (xs ys : List Int) (m : Int) (w : World) (h : NatU w a ca xs m) :
    Calls Tryd.prog 47 #[.agg #[.bool s, .slice a xs.length ca, .slice b ys.length cb]] w fun e w' => e = .returned (.bool (m == 0)) ∧ Below w.heap.size w w' := by
  have hz : ((xs.length : Int) == 0) = (m == 0) := by
    have := h.isz
    by_cases c : m = 0
    · rw [this.2 c, c]; rfl
    · have c2 : ¬ xs.length = 0 := fun e => c (this.1 e)
      rw [beq_eq_false_iff_ne.2 c, beq_eq_false_iff_ne.2 (by omega)]
  have HZ := Lib.hid hz
  clear hz h
  go_enter Tryd.func47, Tryd.ntmps47
  go_wp2
  go_ret
  exact ⟨ret_bool HZ.out, bw_alloc (bw_refl _) _⟩
end Go.Proofs.YthkmhpkoanmbkaaDoor
