/-
  Contracts of ratios: sums, differences, comparison. Conditions stand in each contract.
-/
import Derived.Test.YthkmhpkoanmbkaaDoorN13
namespace Go.Proofs.YthkmhpkoanmbkaaDoor
open Go.RowKit
set_option linter.unusedVariables false

/-- The ratio of two whole numbers, in lowest terms. -/
def RetQ (N D : Int) (w : World) (e : Ending) (w' : World) : Prop := RetR (fun s => s = decide (N < 0)) (absI N / gcdI (absI N) D) (D / gcdI (absI N) D) w e w'
theorem RetR.q {neg : Bool} {M D N : Int} {w : World} {e : Ending} {w' : World} (h : RetR (fun s => s = (neg && !(M == 0))) (M / gcdI M D) (D / gcdI M D) w e w') (hM : 0 ≤ M) (hN : N = sg neg M) : RetQ N D w e w' := by
  have e1 : absI N = M := by rw [hN]; unfold sg absI; split <;> omega
  unfold RetQ
  rw [e1]
  obtain ⟨s, a, ca, xs, b, cb, ys, h1, h2, h3⟩ := h
  refine ⟨s, a, ca, xs, b, cb, ys, h1, ?_, h3⟩
  rw [h2, hN]
  unfold sg
  cases neg with
  | false => simp; omega
  | true =>
    by_cases c : M = 0
    · subst c; rfl
    · have e2 : (M == 0) = false := beq_eq_false_iff_ne.2 c
      rw [e2]
      simp only [if_true, Bool.not_false, Bool.and_true]
      exact (decide_eq_true (by omega)).symm
theorem sg_same {s1 s2 : Bool} (h : (s1 == s2) = true) {A B C D : Int} : sg s1 A * B + sg s2 C * D = sg s1 (A * B + C * D) := by
  rw [beq_iff_eq] at h
  subst h
  unfold sg
  split <;> grind
theorem sg_diff1 {s1 s2 : Bool} (h : (s1 == s2) = false) {A B C D : Int} : sg s1 A * B + sg s2 C * D = sg s1 (A * B - C * D) := by
  cases s1 <;> cases s2 <;> simp_all [sg] <;> grind
theorem sg_diff2 {s1 s2 : Bool} (h : (s1 == s2) = false) {A B C D : Int} : sg s1 A * B + sg s2 C * D = sg s2 (C * D - A * B) := by
  cases s1 <;> cases s2 <;> simp_all [sg] <;> grind
theorem upd2 (w : World) (g : Nat) (x y : Value) : Upd g w ((w.setCell ⟨g, 1, none⟩ x).setCell ⟨g, 0, none⟩ y) := by
  have h1 := Upd.setCell w g 1 x
  have h2 := Upd.setCell (w.setCell ⟨g, 1, none⟩ x) g 0 y
  exact ⟨h2.os.trans h1.os, h2.tape.trans h1.tape, h2.output.trans h1.output, h2.size.trans h1.size, fun i hi => (h2.rest i hi).trans (h1.rest i hi)⟩
set_option maxRecDepth 100000 in
set_option maxHeartbeats 4000000 in
theorem rplus_any (s1 s2 : Bool) (a1 b1 a2 b2 : Option Addr) (ca1 cb1 ca2 cb2 : Nat) (x1 y1 x2 y2 : List Int) (m1 n1 m2 n2 : Int) (w : World) (h1 : RatV w a1 ca1 x1 b1 cb1 y1 m1 n1) (h2 : RatV w a2 ca2 x2 b2 cb2 y2 m2 n2) (k1 : m1 < bp 90 ∧ n1 < bp 90) (k2 : m2 < bp 90 ∧ n2 < bp 90) :
    Calls Tryd.prog 21 #[.agg #[.bool s1, .slice a1 x1.length ca1, .slice b1 y1.length cb1], .agg #[.bool s2, .slice a2 x2.length ca2, .slice b2 y2.length cb2]] w fun e w' => RetQ (sg s1 m1 * n2 + sg s2 m2 * n1) (n1 * n2) w e w' := by
  have H1 := Lib.hid h1
  have H2 := Lib.hid h2
  have K1 := Lib.hid k1
  have K2 := Lib.hid k2
  clear h1 h2 k1 k2
  have hT : ∀ (a b : Option Addr) (ca cb : Nat) (xs ys : List Int) (m n : Int) W, NatU w a ca xs m → NatU w b cb ys n → m < bp 90 → n < bp 90 → Below w.heap.size w W → Calls Tryd.prog 38 #[.slice a xs.length ca, .slice b ys.length cb] W fun e w' => RetN (m * n) W e w' := fun a b ca cb xs ys m n W hA hB hm hn hW =>
    times_any xs ys a b ca cb m n W (hA.later hW) (hB.later hW) ⟨by have := hA.lenle hm; omega, by have := hB.lenle hn; omega⟩
  have hT1 := fun W => hT a1 b2 ca1 cb2 x1 y2 m1 n2 W H1.out.num H2.out.den K1.out.1 K2.out.2
  have hT2 := fun W => hT a2 b1 ca2 cb1 x2 y1 m2 n1 W H2.out.num H1.out.den K2.out.1 K1.out.2
  have hT3 := fun W => hT b1 b2 cb1 cb2 y1 y2 n1 n2 W H1.out.den H2.out.den K1.out.2 K2.out.2
  have HBD : Hid ((m1 * n2 + m2 * n1 < bp 200 ∧ m1 * n2 < bp 180 ∧ m2 * n1 < bp 180 ∧ n1 * n2 < bp 200) ∧ 0 < n1 * n2 ∧ 0 ≤ m1 * n2 ∧ 0 ≤ m2 * n1) := Lib.hid (by
    have a1 := bp_mul_lt K1.out.1 K2.out.2 H1.out.num.nonneg H2.out.den.nonneg
    have a2 := bp_mul_lt K2.out.1 K1.out.2 H2.out.num.nonneg H1.out.den.nonneg
    have a3 := bp_mul_lt K1.out.2 K2.out.2 H1.out.den.nonneg H2.out.den.nonneg
    have a4 := bp_mono (show 181 ≤ 200 by omega)
    have a5 : bp 181 = 4294967296 * bp 180 := rfl
    have a6 := bp_pos 180
    have b1 := H1.out.num.nonneg
    have b2 := H2.out.num.nonneg
    have b3 := H1.out.pos
    have b4 := H2.out.pos
    generalize bp 180 = Z at *
    generalize bp 181 = Y at *
    generalize bp 200 = X at *
    exact ⟨⟨by omega, a1, a2, by omega⟩, Int.mul_pos b3 b4, Int.mul_nonneg b1 (by omega), Int.mul_nonneg b2 (by omega)⟩)
  have n01 : ¬ w.heap.size = w.heap.size + 1 := by omega
  have n10 : ¬ w.heap.size + 1 = w.heap.size := by omega
  have n02 : ¬ w.heap.size = w.heap.size + 1 + 1 := by omega
  have n20 : ¬ w.heap.size + 1 + 1 = w.heap.size := by omega
  have n12 : ¬ w.heap.size + 1 = w.heap.size + 1 + 1 := by omega
  have n21 : ¬ w.heap.size + 1 + 1 = w.heap.size + 1 := by omega
  have l0 : w.heap.size < w.heap.size + 1 + 1 + 1 := by omega
  have l1 : w.heap.size + 1 < w.heap.size + 1 + 1 + 1 := by omega
  have l2 : w.heap.size + 1 + 1 < w.heap.size + 1 + 1 + 1 := by omega
  go_enter Tryd.func21, Tryd.ntmps21
  go_wp2_with fail
  go_region_held3 (fun w' => w'.cell? ⟨w.heap.size, 0, none⟩ = some (.bool s1) ∧ w'.cell? ⟨w.heap.size, 1, none⟩ = some (.slice a1 x1.length ca1) ∧ w'.cell? ⟨w.heap.size, 2, none⟩ = some (.slice b1 y1.length cb1) ∧
      w'.cell? ⟨w.heap.size + 1, 0, none⟩ = some (.bool s2) ∧ w'.cell? ⟨w.heap.size + 1, 1, none⟩ = some (.slice a2 x2.length ca2) ∧ w'.cell? ⟨w.heap.size + 1, 2, none⟩ = some (.slice b2 y2.length cb2)) (go_keep)
    (first
      | (go_at_call 38; (with_reducible refine (hT1 _ (bw_drew (bw_alloc (bw_alloc (bw_alloc (bw_refl _) _) _) _))).mono ?_); rintro e w1 ⟨p1, c1, z1, rfl, hn1, hb1⟩
         have B1 := bw_call (bw_drew (bw_alloc (bw_alloc (bw_alloc (bw_refl w) _) _) _)) hb1
         have E0 : Blk w1 w.heap.size #[.bool s1, .slice a1 x1.length ca1, .slice b1 y1.length cb1] 49 := Blk.later ((((Blk.new w _ _).alloc _).alloc _).drew) hb1
         have E1 : Blk w1 (w.heap.size + 1) #[.bool s2, .slice a2 x2.length ca2, .slice b2 y2.length cb2] 49 := Blk.later (((Blk.new' (by simp) _ _).alloc _).drew) hb1
         have E2 : Blk w1 (w.heap.size + 1 + 1) #[.bool false, .slice none 0 0, .slice none 0 0] 49 := Blk.later (((Blk.new' (by simp) _ _)).drew) hb1
         have q00 := E0.cell 0 rfl; have q01 := E0.cell 1 rfl; have q02 := E0.cell 2 rfl
         have q10 := E1.cell 0 rfl; have q11 := E1.cell 1 rfl; have q12 := E1.cell 2 rfl)
      | (go_at_call 38; (with_reducible refine (hT2 _ B1).mono ?_); rintro e w2 ⟨p2, c2, z2, rfl, hn2, hb2⟩
         have B2 := bw_call B1 hb2
         have E3 := E0.later hb2; have E4 := E1.later hb2; have E5 := E2.later hb2
         have q20 := E3.cell 0 rfl; have q21 := E3.cell 1 rfl; have q22 := E3.cell 2 rfl
         have q30 := E4.cell 0 rfl; have q31 := E4.cell 1 rfl; have q32 := E4.cell 2 rfl))
  have NA := Lib.hid (hn1.later hb2)
  have NB := Lib.hid hn2
  have B2 := Lib.hid B2
  have E3 := Lib.hid E3
  have E4 := Lib.hid E4
  have E5 := Lib.hid E5
  clear hn1 hn2 hb1 hb2 B1 E0 E1 E2 q00 q01 q02 q10 q11 q12 hT1 hT2
  have lz : w.heap.size + 1 + 1 < w2.heap.size := by have := E5.out.lt; omega
  have z0 : ¬ w.heap.size = w2.heap.size := by omega
  have z1' : ¬ w.heap.size + 1 = w2.heap.size := by omega
  have z2' : ¬ w.heap.size + 1 + 1 = w2.heap.size := by omega
  have y0 : ¬ w2.heap.size = w.heap.size := by omega
  have y1' : ¬ w2.heap.size = w.heap.size + 1 := by omega
  have y2' : ¬ w2.heap.size = w.heap.size + 1 + 1 := by omega
  go_wp2_with fail
  go_region_held3 (fun w' => w'.cell? ⟨w.heap.size, 0, none⟩ = some (.bool s1) ∧ w'.cell? ⟨w.heap.size, 1, none⟩ = some (.slice a1 x1.length ca1) ∧ w'.cell? ⟨w.heap.size, 2, none⟩ = some (.slice b1 y1.length cb1) ∧
      w'.cell? ⟨w.heap.size + 1, 0, none⟩ = some (.bool s2) ∧ w'.cell? ⟨w.heap.size + 1, 1, none⟩ = some (.slice a2 x2.length ca2) ∧ w'.cell? ⟨w.heap.size + 1, 2, none⟩ = some (.slice b2 y2.length cb2)) (go_keep)
    (first
      | (go_at_call 38; (with_reducible refine (hT3 _ (bw_drew B2.out)).mono ?_); rintro e w3 ⟨p3, c3, z3, rfl, hn3, hb3⟩
         have B3 := bw_call (bw_drew B2.out) hb3
         have E6 := E3.out.drew.later hb3; have E7 := E4.out.drew.later hb3; have E8 := E5.out.drew.later hb3
         have q40 := E6.cell 0 rfl; have q41 := E6.cell 1 rfl; have q42 := E6.cell 2 rfl
         have q50 := E7.cell 0 rfl; have q51 := E7.cell 1 rfl; have q52 := E7.cell 2 rfl)
      | (go_at_call 38; (with_reducible refine (hT3 _ (bw_drew (bw_alloc B2.out _))).mono ?_); rintro e w3 ⟨p3, c3, z3, rfl, hn3, hb3⟩
         have B3 := bw_call (bw_drew (bw_alloc B2.out _)) hb3
         have E6 := (E3.out.alloc _).drew.later hb3; have E7 := (E4.out.alloc _).drew.later hb3; have E8 := (E5.out.alloc _).drew.later hb3
         have EO : Blk w3 w2.heap.size #[.bool false, .slice none 0 0, .slice none 0 0] 49 := Blk.later (Blk.drew (Blk.new' (by simp) _ _)) hb3
         have q40 := E6.cell 0 rfl; have q41 := E6.cell 1 rfl; have q42 := E6.cell 2 rfl
         have q50 := E7.cell 0 rfl; have q51 := E7.cell 1 rfl; have q52 := E7.cell 2 rfl
         have g0 := EO.cell 0 rfl; have g1 := EO.cell 1 rfl; have g2 := EO.cell 2 rfl
         have e0 := EO.free 0; have e1 := EO.free 1; have e2 := EO.free 2))
  all_goals (first
    | (obtain ⟨w4, hw4⟩ : ∃ w4, w3.alloc (.cells #[.bool s1, .slice none 0 0, .slice p3 z3.length c3] 49) = w4 := ⟨_, rfl⟩
       obtain ⟨g, hg⟩ : ∃ g, w3.heap.size = g := ⟨_, rfl⟩
       have HO : Hid (Blk w4 g #[.bool s1, .slice none 0 0, .slice p3 z3.length c3] 49) := Lib.hid (by rw [← hw4, ← hg]; exact Blk.new w3 _ _)
       have F0 : Hid (Blk w4 w.heap.size #[.bool s1, .slice a1 x1.length ca1, .slice b1 y1.length cb1] 49) := Lib.hid (by rw [← hw4]; exact E6.alloc _)
       have F1 : Hid (Blk w4 (w.heap.size + 1) #[.bool s2, .slice a2 x2.length ca2, .slice b2 y2.length cb2] 49) := Lib.hid (by rw [← hw4]; exact E7.alloc _)
       have F2 : Hid (Blk w4 (w.heap.size + 1 + 1) #[.bool false, .slice none 0 0, .slice none 0 0] 49) := Lib.hid (by rw [← hw4]; exact E8.alloc _)
       have B4 : Hid (Below w.heap.size w w4) := Lib.hid (by rw [← hw4]; exact bw_alloc B3 _)
       have NA4 : Hid (NatU w4 p1 c1 z1 (m1 * n2)) := Lib.hid (by rw [← hw4]; exact ((NA.out.later (bw_drew (bw_refl _))).later hb3).later (bw_alloc (bw_refl _) _))
       have NB4 : Hid (NatU w4 p2 c2 z2 (m2 * n1)) := Lib.hid (by rw [← hw4]; exact ((NB.out.later (bw_drew (bw_refl _))).later hb3).later (bw_alloc (bw_refl _) _))
       have ND4 : Hid (NatU w4 p3 c3 z3 (n1 * n2)) := Lib.hid (by rw [← hw4]; exact hn3.later (bw_alloc (bw_refl _) _))
       have HGG : Hid (w.heap.size + 1 + 1 < g) := Lib.hid (by have := E5.out.lt; have := hb3.size; simp at this; omega)
       rw [hw4, hg])
    | (obtain ⟨w4, hw4⟩ : ∃ w4, ((w3.setCell ⟨w2.heap.size, 0, none⟩ (.bool s1)).setCell ⟨w2.heap.size, 1, none⟩ (.slice none 0 0)).setCell ⟨w2.heap.size, 2, none⟩ (.slice p3 z3.length c3) = w4 := ⟨_, rfl⟩
       obtain ⟨g, hg⟩ : ∃ g, w2.heap.size = g := ⟨_, rfl⟩
       have HO : Hid (Blk w4 g #[.bool s1, .slice none 0 0, .slice p3 z3.length c3] 49) := Lib.hid (by rw [← hw4, ← hg]; exact EO.set3 _ _ _)
       have F0 : Hid (Blk w4 w.heap.size #[.bool s1, .slice a1 x1.length ca1, .slice b1 y1.length cb1] 49) := Lib.hid (by rw [← hw4]; exact ((E6.far (by simp; omega) _).far (by simp; omega) _).far (by simp; omega) _)
       have F1 : Hid (Blk w4 (w.heap.size + 1) #[.bool s2, .slice a2 x2.length ca2, .slice b2 y2.length cb2] 49) := Lib.hid (by rw [← hw4]; exact ((E7.far (by simp; omega) _).far (by simp; omega) _).far (by simp; omega) _)
       have F2 : Hid (Blk w4 (w.heap.size + 1 + 1) #[.bool false, .slice none 0 0, .slice none 0 0] 49) := Lib.hid (by rw [← hw4]; exact ((E8.far (by simp; omega) _).far (by simp; omega) _).far (by simp; omega) _)
       have B4 : Hid (Below w.heap.size w w4) := Lib.hid (by rw [← hw4]; exact B3.trans ((upd3 w3 w2.heap.size _ _ _).below (by omega)))
       have NA4 : Hid (NatU w4 p1 c1 z1 (m1 * n2)) := Lib.hid (by rw [← hw4]; exact ((NA.out.later (bw_drew (bw_alloc (bw_refl _) _))).later hb3).apart EO rat_free (upd3 ..))
       have NB4 : Hid (NatU w4 p2 c2 z2 (m2 * n1)) := Lib.hid (by rw [← hw4]; exact ((NB.out.later (bw_drew (bw_alloc (bw_refl _) _))).later hb3).apart EO rat_free (upd3 ..))
       have ND4 : Hid (NatU w4 p3 c3 z3 (n1 * n2)) := Lib.hid (by rw [← hw4]; exact hn3.apart EO rat_free (upd3 ..))
       have HGG : Hid (w.heap.size + 1 + 1 < g) := Lib.hid (by have := E5.out.lt; have := hb3.size; simp at this; omega)
       rw [hw4, hg]))
  all_goals clear hb3 hn3 B3 E6 E7 E8 NA NB B2 E3 E4 E5 hT3 q20 q21 q22 q30 q31 q32 q40 q41 q42 q50 q51 q52 hw4 hg
  all_goals (try clear EO g0 g1 g2 e0 e1 e2)
  all_goals
    have d00 := F0.out.cell 0 rfl
    have d10 := F1.out.cell 0 rfl
    have o0 := HO.out.cell 0 rfl
    have o1 := HO.out.cell 1 rfl
    have o2 := HO.out.cell 2 rfl
    have f1 := HO.out.free 1
    have f0 := HO.out.free 0
    cases hs : (s1 == s2) with
    | true =>
      have HSS := Lib.hid hs
      go_wp2_with fail
      refine (plus_any z1 z2 p1 p2 c1 c2 _ _ w4 NA4.out NB4.out ⟨by have := NA4.out.lenle HBD.out.1.2.1; omega, by have := NB4.out.lenle HBD.out.1.2.2.1; omega⟩).mono ?_
      rintro e w5 ⟨p5, c5, z5, rfl, hn5, hbb⟩
      have O5 := Lib.hid (HO.out.later hbb)
      have G5 := Lib.hid (F2.out.later hbb)
      have B5 := Lib.hid (bw_call B4.out hbb)
      have ND5 := Lib.hid (ND4.out.later hbb)
      have N5 := Lib.hid hn5
      clear hn5 hbb
      have o0 := O5.out.cell 0 rfl
      have o1 := O5.out.cell 1 rfl
      have o2 := O5.out.cell 2 rfl
      have f1 := O5.out.free 1
      have f0 := O5.out.free 0
      go_wp2_with fail
      obtain ⟨w6, hw6⟩ : ∃ w6, w5.setCell ⟨g, 1, none⟩ (.slice p5 z5.length c5) = w6 := ⟨_, rfl⟩
      have U6 : Upd g w5 w6 := by rw [← hw6]; exact Upd.setCell w5 g 1 (.slice p5 z5.length c5)
      have O6 : Blk w6 g #[.bool s1, .slice p5 z5.length c5, .slice p3 z3.length c3] 49 := by rw [← hw6]; exact O5.out.set 1 _
      have G6 : Blk w6 (w.heap.size + 1 + 1) #[.bool false, .slice none 0 0, .slice none 0 0] 49 := (U6.rest _ (by have := HGG.out; omega)).trans G5.out
      have B6 := Lib.hid (B5.out.trans (U6.below (by have := HGG.out; omega)))
      have N6 := N5.out.apart O5.out rat_free U6
      have ND6 := ND5.out.apart O5.out rat_free U6
      rw [hw6]
      clear hw6 U6 O5 G5 B5 N5 ND5 o0 o1 o2 f0 f1
      refine (lowest_any s1 p5 p3 c5 c3 z5 z3 _ _ w6 N6 ND6 HBD.out.1.1 HBD.out.1.2.2.2 HBD.out.2.1).mono ?_
      rintro e w7 ⟨s7, p7, c7, z7, p8, c8, z8, rfl, hs7, hn7, hn8, hb7⟩
      have G7 := G6.later hb7
      have B7 := Lib.hid (bw_call B6.out hb7)
      have HS7 := Lib.hid hs7
      have N7 := Lib.hid hn7
      have N8 := Lib.hid hn8
      clear hs7 hn7 hn8 hb7 G6 O6 N6 ND6
      have g0 := G7.cell 0 rfl
      have g1 := G7.cell 1 rfl
      have g2 := G7.cell 2 rfl
      have e0 := G7.free 0
      have e1 := G7.free 1
      have e2 := G7.free 2
      go_wp2
      refine bodyPost_ret (v := .agg #[.bool s7, .slice p7 z7.length c7, .slice p8 z8.length c8]) (by simp [results, Tryd.results21, go_sem, g0, g1, g2]) rfl ?_
      refine RetR.q (neg := s1) (M := m1 * n2 + m2 * n1) ⟨s7, p7, c7, z7, p8, c8, z8, rfl, HS7.out, N7.out.apart G7 rat_free (upd3 ..), N8.out.apart G7 rat_free (upd3 ..), ?_⟩ ?_ ?_
      · exact B7.out.trans ((upd3 w7 (w.heap.size + 1 + 1) _ _ _).below (by omega))
      · have := HBD.out; omega
      · exact sg_same HSS.out
    | false =>
      have HSS := Lib.hid hs
      go_wp2_with fail
      refine (compare_any z1 z2 p1 p2 c1 c2 _ _ w4 NA4.out NB4.out).mono ?_
      rintro e w45 ⟨r, rfl, hr, d, rfl⟩
      by_cases hle : m2 * n1 ≤ m1 * n2
      · have hr0 : 0 ≤ r := by omega
        have HLE := Lib.hid hle
        clear hr hle
        go_wp2_with fail
        have hmin := minus_any z1 z2 p1 p2 c1 c2 (m2 * n1) (w4.drewN d) (NA4.out.later (bw_drewN (bw_refl _) _)).has NA4.out.spot NA4.out.dig (NB4.out.later (bw_drewN (bw_refl _) _)) (by have := NA4.out.lenle HBD.out.1.2.1; omega) (norm_len NB4.out.dig NA4.out.dig NB4.out.norm NA4.out.norm (by rw [NA4.out.eq, NB4.out.eq]; exact HLE.out)) (by rw [NA4.out.eq]; exact HLE.out)
        rw [NA4.out.eq] at hmin
        refine hmin.mono ?_
        clear hmin
        rintro e w5 ⟨p5, c5, z5, rfl, hn5, hbb'⟩
        have hbb : Below w4.heap.size w4 w5 := bw_call (bw_drewN (bw_refl _) _) hbb'
        clear hbb'
        have O5 := Lib.hid (HO.out.later hbb)
        have G5 := Lib.hid (F2.out.later hbb)
        have B5 := Lib.hid (bw_call B4.out hbb)
        have ND5 := Lib.hid (ND4.out.later hbb)
        have N5 := Lib.hid hn5
        clear hn5 hbb
        have o0 := O5.out.cell 0 rfl
        have o1 := O5.out.cell 1 rfl
        have o2 := O5.out.cell 2 rfl
        have f1 := O5.out.free 1
        have f0 := O5.out.free 0
        go_wp2_with fail
        obtain ⟨w6, hw6⟩ : ∃ w6, w5.setCell ⟨g, 1, none⟩ (.slice p5 z5.length c5) = w6 := ⟨_, rfl⟩
        have U6 : Upd g w5 w6 := by rw [← hw6]; exact Upd.setCell w5 g 1 (.slice p5 z5.length c5)
        have O6 : Blk w6 g #[.bool s1, .slice p5 z5.length c5, .slice p3 z3.length c3] 49 := by rw [← hw6]; exact O5.out.set 1 _
        have G6 : Blk w6 (w.heap.size + 1 + 1) #[.bool false, .slice none 0 0, .slice none 0 0] 49 := (U6.rest _ (by have := HGG.out; omega)).trans G5.out
        have B6 := Lib.hid (B5.out.trans (U6.below (by have := HGG.out; omega)))
        have N6 := N5.out.apart O5.out rat_free U6
        have ND6 := ND5.out.apart O5.out rat_free U6
        rw [hw6]
        clear hw6 U6 O5 G5 B5 N5 ND5 o0 o1 o2 f0 f1
        refine (lowest_any s1 p5 p3 c5 c3 z5 z3 _ _ w6 N6 ND6 (by have := HBD.out; have := bp_mono (show 180 ≤ 200 by omega); generalize bp 180 = Z at *; generalize bp 200 = X at *; omega) HBD.out.1.2.2.2 HBD.out.2.1).mono ?_
        rintro e w7 ⟨s7, p7, c7, z7, p8, c8, z8, rfl, hs7, hn7, hn8, hb7⟩
        have G7 := G6.later hb7
        have B7 := Lib.hid (bw_call B6.out hb7)
        have HS7 := Lib.hid hs7
        have N7 := Lib.hid hn7
        have N8 := Lib.hid hn8
        clear hs7 hn7 hn8 hb7 G6 O6 N6 ND6
        have g0 := G7.cell 0 rfl
        have g1 := G7.cell 1 rfl
        have g2 := G7.cell 2 rfl
        have e0 := G7.free 0
        have e1 := G7.free 1
        have e2 := G7.free 2
        go_wp2
        refine bodyPost_ret (v := .agg #[.bool s7, .slice p7 z7.length c7, .slice p8 z8.length c8]) (by simp [results, Tryd.results21, go_sem, g0, g1, g2]) rfl ?_
        refine RetR.q (neg := s1) (M := m1 * n2 - m2 * n1) ⟨s7, p7, c7, z7, p8, c8, z8, rfl, HS7.out, N7.out.apart G7 rat_free (upd3 ..), N8.out.apart G7 rat_free (upd3 ..), ?_⟩ ?_ ?_
        · exact B7.out.trans ((upd3 w7 (w.heap.size + 1 + 1) _ _ _).below (by omega))
        · have := HLE.out; omega
        · exact sg_diff1 HSS.out
      · have hr0 : r < 0 := hr.1.2 (by omega)
        have HLE := Lib.hid hle
        clear hr hle
        have hmin := minus_any z2 z1 p2 p1 c2 c1 (m1 * n2) ((w4.drewN d).drew) (NB4.out.later (bw_drew (bw_drewN (bw_refl _) _))).has NB4.out.spot NB4.out.dig (NA4.out.later (bw_drew (bw_drewN (bw_refl _) _))) (by have := NB4.out.lenle HBD.out.1.2.2.1; omega) (norm_len NA4.out.dig NB4.out.dig NA4.out.norm NB4.out.norm (by rw [NA4.out.eq, NB4.out.eq]; have := HLE.out; omega)) (by rw [NB4.out.eq]; have := HLE.out; omega)
        rw [NB4.out.eq] at hmin
        have HMIN := Lib.hid hmin
        clear hmin
        have ng1 : ¬ g = w.heap.size + 1 := by have := HGG.out; omega
        have ng2 : ¬ w.heap.size + 1 = g := by have := HGG.out; omega
        go_wp2_with fail
        go_region_held3 (fun w' => w'.cell? ⟨w.heap.size + 1, 0, none⟩ = some (.bool s2)) (go_keep)
          (first
            | (go_at_call 41; refine HMIN.out.mono ?_; rintro e w5 ⟨p5, c5, z5, rfl, hn5, hbb'⟩
               have hbb : Below w4.heap.size w4 w5 := bw_call (bw_drew (bw_drewN (bw_refl _) _)) hbb'
               clear hbb'
               have O5 := HO.out.later hbb
               have F5 := F1.out.later hbb
               have o0 := O5.cell 0 rfl
               have o1 := O5.cell 1 rfl
               have o2 := O5.cell 2 rfl
               have f1 := O5.free 1
               have f0 := O5.free 0
               have d20 := F5.cell 0 rfl))
        clear O5 F5 o0 o1 o2 f0 f1
        have O5 := Lib.hid (HO.out.later hbb)
        have G5 := Lib.hid (F2.out.later hbb)
        have B5 := Lib.hid (bw_call B4.out hbb)
        have ND5 := Lib.hid (ND4.out.later hbb)
        have N5 := Lib.hid hn5
        clear hn5 hbb
        have o0 := O5.out.cell 0 rfl
        have o1 := O5.out.cell 1 rfl
        have o2 := O5.out.cell 2 rfl
        have f1 := O5.out.free 1
        have f0 := O5.out.free 0
        go_wp2_with fail
        obtain ⟨w6, hw6⟩ : ∃ w6, (w5.setCell ⟨g, 1, none⟩ (.slice p5 z5.length c5)).setCell ⟨g, 0, none⟩ (.bool s2) = w6 := ⟨_, rfl⟩
        have U6 : Upd g w5 w6 := by rw [← hw6]; exact upd2 w5 g _ _
        have O6 : Blk w6 g #[.bool s2, .slice p5 z5.length c5, .slice p3 z3.length c3] 49 := by rw [← hw6]; exact (O5.out.set 1 _).set 0 _
        have G6 : Blk w6 (w.heap.size + 1 + 1) #[.bool false, .slice none 0 0, .slice none 0 0] 49 := (U6.rest _ (by have := HGG.out; omega)).trans G5.out
        have B6 := Lib.hid (B5.out.trans (U6.below (by have := HGG.out; omega)))
        have N6 := N5.out.apart O5.out rat_free U6
        have ND6 := ND5.out.apart O5.out rat_free U6
        rw [hw6]
        clear hw6 U6 O5 G5 B5 N5 ND5 o0 o1 o2 f0 f1
        refine (lowest_any s2 p5 p3 c5 c3 z5 z3 _ _ w6 N6 ND6 (by have := HBD.out; have := bp_mono (show 180 ≤ 200 by omega); generalize bp 180 = Z at *; generalize bp 200 = X at *; omega) HBD.out.1.2.2.2 HBD.out.2.1).mono ?_
        rintro e w7 ⟨s7, p7, c7, z7, p8, c8, z8, rfl, hs7, hn7, hn8, hb7⟩
        have G7 := G6.later hb7
        have B7 := Lib.hid (bw_call B6.out hb7)
        have HS7 := Lib.hid hs7
        have N7 := Lib.hid hn7
        have N8 := Lib.hid hn8
        clear hs7 hn7 hn8 hb7 G6 O6 N6 ND6
        have g0 := G7.cell 0 rfl
        have g1 := G7.cell 1 rfl
        have g2 := G7.cell 2 rfl
        have e0 := G7.free 0
        have e1 := G7.free 1
        have e2 := G7.free 2
        go_wp2
        refine bodyPost_ret (v := .agg #[.bool s7, .slice p7 z7.length c7, .slice p8 z8.length c8]) (by simp [results, Tryd.results21, go_sem, g0, g1, g2]) rfl ?_
        refine RetR.q (neg := s2) (M := m2 * n1 - m1 * n2) ⟨s7, p7, c7, z7, p8, c8, z8, rfl, HS7.out, N7.out.apart G7 rat_free (upd3 ..), N8.out.apart G7 rat_free (upd3 ..), ?_⟩ ?_ ?_
        · exact B7.out.trans ((upd3 w7 (w.heap.size + 1 + 1) _ _ _).below (by omega))
        · have := HLE.out; omega
        · exact sg_diff2 HSS.out
end Go.Proofs.YthkmhpkoanmbkaaDoor
