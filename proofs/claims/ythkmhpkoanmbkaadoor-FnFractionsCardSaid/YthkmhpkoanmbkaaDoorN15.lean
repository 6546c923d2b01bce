/-
  Contracts of ratios: differences, comparison, back to fractions. Conditions stand in each contract.
-/
import Derived.Test.YthkmhpkoanmbkaaDoorN14
namespace Go.Proofs.YthkmhpkoanmbkaaDoor
open Go.RowKit
set_option linter.unusedVariables false

theorem sg_opp {s : Bool} {m : Int} (hm : 0 ≤ m) : sg (!s && !(m == 0)) m = -sg s m := by
  unfold sg
  by_cases c : m = 0
  · subst c; cases s <;> rfl
  · have e : (m == 0) = false := beq_eq_false_iff_ne.2 c
    rw [e]
    cases s <;> simp
set_option maxRecDepth 100000 in
theorem rminus_any (s1 s2 : Bool) (a1 b1 a2 b2 : Option Addr) (ca1 cb1 ca2 cb2 : Nat) (x1 y1 x2 y2 : List Int) (m1 n1 m2 n2 : Int) (w : World) (h1 : RatV w a1 ca1 x1 b1 cb1 y1 m1 n1) (h2 : RatV w a2 ca2 x2 b2 cb2 y2 m2 n2) (k1 : m1 < bp 90 ∧ n1 < bp 90) (k2 : m2 < bp 90 ∧ n2 < bp 90) :
    Calls Tryd.prog 22 #[.agg #[.bool s1, .slice a1 x1.length ca1, .slice b1 y1.length cb1], .agg #[.bool s2, .slice a2 x2.length ca2, .slice b2 y2.length cb2]] w fun e w' => RetQ (sg s1 m1 * n2 - sg s2 m2 * n1) (n1 * n2) w e w' := by
  have H1 := Lib.hid h1
  have H2 := Lib.hid h2
  have K1 := Lib.hid k1
  have K2 := Lib.hid k2
  have HE : Hid (sg s1 m1 * n2 + sg (!s2 && !(m2 == 0)) m2 * n1 = sg s1 m1 * n2 - sg s2 m2 * n1) := Lib.hid (by rw [sg_opp h2.num.nonneg, Int.neg_mul]; omega)
  clear h1 h2 k1 k2
  go_enter Tryd.func22, Tryd.ntmps22
  have n01 : ¬ w.heap.size = w.heap.size + 1 := by omega
  have n10 : ¬ w.heap.size + 1 = w.heap.size := by omega
  have n02 : ¬ w.heap.size = w.heap.size + 1 + 1 := by omega
  have n20 : ¬ w.heap.size + 1 + 1 = w.heap.size := by omega
  have n12 : ¬ w.heap.size + 1 = w.heap.size + 1 + 1 := by omega
  have n21 : ¬ w.heap.size + 1 + 1 = w.heap.size + 1 := by omega
  have l0 : w.heap.size < w.heap.size + 1 + 1 + 1 := by omega
  have l1 : w.heap.size + 1 < w.heap.size + 1 + 1 + 1 := by omega
  have l2 : w.heap.size + 1 + 1 < w.heap.size + 1 + 1 + 1 := by omega
  have hO : ∀ W, Below w.heap.size w W → Calls Tryd.prog 43 #[.agg #[.bool s2, .slice a2 x2.length ca2, .slice b2 y2.length cb2]] W fun e w' => e = .returned (.agg #[.bool (!s2 && !(m2 == 0)), .slice a2 x2.length ca2, .slice b2 y2.length cb2]) ∧ Below W.heap.size W w' := fun W hW => opposite_any s2 a2 b2 ca2 cb2 x2 y2 m2 n2 W (H2.out.later hW)
  have hP : ∀ W, Below w.heap.size w W → Calls Tryd.prog 21 #[.agg #[.bool s1, .slice a1 x1.length ca1, .slice b1 y1.length cb1], .agg #[.bool (!s2 && !(m2 == 0)), .slice a2 x2.length ca2, .slice b2 y2.length cb2]] W fun e w' => RetQ (sg s1 m1 * n2 - sg s2 m2 * n1) (n1 * n2) W e w' := fun W hW => by
    rw [← HE.out]
    exact rplus_any s1 _ a1 b1 a2 b2 ca1 cb1 ca2 cb2 x1 y1 x2 y2 m1 n1 m2 n2 W (H1.out.later hW) (H2.out.later hW) K1.out K2.out
  have HO := Lib.hid hO
  have HP := Lib.hid hP
  obtain ⟨s4, hs4⟩ : ∃ s, (!s2 && !(m2 == 0)) = s := ⟨_, rfl⟩
  rw [hs4] at HO HP
  clear hO hP hs4
  go_wp2_with fail
  go_region_held3 (fun w' => w'.cell? ⟨w.heap.size, 0, none⟩ = some (.bool s1) ∧ w'.cell? ⟨w.heap.size, 1, none⟩ = some (.slice a1 x1.length ca1) ∧ w'.cell? ⟨w.heap.size, 2, none⟩ = some (.slice b1 y1.length cb1) ∧
      w'.cell? ⟨w.heap.size + 1, 0, none⟩ = some (.bool s2) ∧ w'.cell? ⟨w.heap.size + 1, 1, none⟩ = some (.slice a2 x2.length ca2) ∧ w'.cell? ⟨w.heap.size + 1, 2, none⟩ = some (.slice b2 y2.length cb2)) (go_keep)
    (first
      | (go_at_call 43; refine (HO.out _ (bw_drew (bw_alloc (bw_alloc (bw_alloc (bw_refl _) _) _) _))).mono ?_; rintro e w1 ⟨rfl, hb1⟩
         have B1 := bw_call (bw_drew (bw_alloc (bw_alloc (bw_alloc (bw_refl w) _) _) _)) hb1
         have E0 : Blk w1 w.heap.size #[.bool s1, .slice a1 x1.length ca1, .slice b1 y1.length cb1] 49 := Blk.later ((((Blk.new w _ _).alloc _).alloc _).drew) hb1
         have E1 : Blk w1 (w.heap.size + 1) #[.bool s2, .slice a2 x2.length ca2, .slice b2 y2.length cb2] 49 := Blk.later (((Blk.new' (by simp) _ _).alloc _).drew) hb1
         have E2 : Blk w1 (w.heap.size + 1 + 1) #[.bool false, .slice none 0 0, .slice none 0 0] 49 := Blk.later (((Blk.new' (by simp) _ _)).drew) hb1
         have q00 := E0.cell 0 rfl; have q01 := E0.cell 1 rfl; have q02 := E0.cell 2 rfl
         have q10 := E1.cell 0 rfl; have q11 := E1.cell 1 rfl; have q12 := E1.cell 2 rfl)
      | (go_at_call 21; refine (HP.out _ B1).mono ?_; rintro e w3 ⟨s3, p3, c3, z3, p4, c4, z4, rfl, hs3, hn3, hn4, hb3⟩
         have HS3 := Lib.hid hs3
         clear hs3
         have B3 := bw_call B1 hb3
         have E6 := E0.later hb3; have E7 := E1.later hb3; have E8 := E2.later hb3
         have q40 := E6.cell 0 rfl; have q41 := E6.cell 1 rfl; have q42 := E6.cell 2 rfl
         have q50 := E7.cell 0 rfl; have q51 := E7.cell 1 rfl; have q52 := E7.cell 2 rfl
         have g0 := E8.cell 0 rfl; have g1 := E8.cell 1 rfl; have g2 := E8.cell 2 rfl
         have e0 := E8.free 0; have e1 := E8.free 1; have e2 := E8.free 2))
  have N3 := Lib.hid hn3
  have N4 := Lib.hid hn4
  have B3 := Lib.hid B3
  clear hn3 hn4 hb1 hb3 B1
  go_wp2
  refine bodyPost_ret (v := .agg #[.bool s3, .slice p3 z3.length c3, .slice p4 z4.length c4]) (by simp [results, Tryd.results22, go_sem, g0, g1, g2]) rfl ?_
  refine ⟨s3, p3, c3, z3, p4, c4, z4, rfl, HS3.out, N3.out.apart E8 rat_free (upd3 ..), N4.out.apart E8 rat_free (upd3 ..), ?_⟩
  exact B3.out.trans ((upd3 w3 (w.heap.size + 1 + 1) _ _ _).below (by omega))
def frB (N D : Int) : Bool := decide (absI N / gcdI (absI N) D ≤ 1000000000000000000) && decide (D / gcdI (absI N) D ≤ 1000000000000000000)
set_option maxRecDepth 100000 in
theorem rfraction_any (s : Bool) (a b : Option Addr) (ca cb : Nat) (xs ys : List Int) (m n : Int) (w : World) (ha : NatU w a ca xs m) (hb : NatU w b cb ys n) :
    Calls Tryd.prog 37 #[.agg #[.bool s, .slice a xs.length ca, .slice b ys.length cb]] w fun e w' => (∃ p q bo, e = .returned (.tuple #[.agg #[.int .i64 p, .int .i64 q], .bool bo]) ∧ bo = (decide (m ≤ 1000000000000000000) && decide (n ≤ 1000000000000000000)) ∧ p = (if bo then sg s m else 0) ∧ q = (if bo then n else 0)) ∧ Below w.heap.size w w' := by
  have HA := Lib.hid ha
  have HB := Lib.hid hb
  have m0 := ha.nonneg
  have n0 := hb.nonneg
  clear ha hb
  go_enter Tryd.func37, Tryd.ntmps37
  go_wp2_with fail
  refine (small_any xs a ca m _ (HA.out.later (bw_alloc (bw_alloc (bw_refl _) _) _))).mono ?_
  rintro e w1 ⟨v1, b1, rfl, rfl, hv1, hw1⟩
  go_wp2_with fail
  refine (small_any ys b cb n _ (HB.out.later (bw_alloc (bw_alloc (bw_refl _) _) _))).mono ?_
  rintro e w2 ⟨v2, b2, rfl, rfl, hv2, hw2⟩
  have e1 : b1 = decide (m ≤ 1000000000000000000) := by
    cases b1 with
    | true => exact (decide_eq_true (hv1.1 rfl)).symm
    | false => exact (decide_eq_false (fun c => by have := hv1.2 c; cases this)).symm
  have e2 : b2 = decide (n ≤ 1000000000000000000) := by
    cases b2 with
    | true => exact (decide_eq_true (hv2.1 rfl)).symm
    | false => exact (decide_eq_false (fun c => by have := hv2.2 c; cases this)).symm
  have HE1 := Lib.hid e1
  have HE2 := Lib.hid e2
  clear e1 e2
  cases b1 with
  | false =>
    clear hv1 hw1 hv2 hw2
    go_wp2
    refine bodyPost_ret (v := .tuple #[.agg #[.int .i64 0, .int .i64 0], .bool false]) (by simp [results, Tryd.results37, go_sem]) rfl ⟨⟨0, 0, false, rfl, by rw [← HE1.out]; rfl, rfl, rfl⟩, ?_⟩
    exact bw_alloc (bw_alloc (bw_refl _) _) _
  | true =>
    have a1 := hw1 rfl
    subst a1
    have a2 := hv1.1 rfl
    clear hv1 hw1
    cases b2 with
    | false =>
      clear hv2 hw2
      go_wp2
      refine bodyPost_ret (v := .tuple #[.agg #[.int .i64 0, .int .i64 0], .bool false]) (by simp [results, Tryd.results37, go_sem]) rfl ⟨⟨0, 0, false, rfl, by rw [← HE1.out, ← HE2.out]; rfl, rfl, rfl⟩, ?_⟩
      exact bw_alloc (bw_alloc (bw_refl _) _) _
    | true =>
      have a3 := hw2 rfl
      subst a3
      have a4 := hv2.1 rfl
      clear hv2 hw2
      cases s with
      | false =>
        go_wp2
        refine bodyPost_ret (v := .tuple #[.agg #[.int .i64 v1, .int .i64 v2], .bool true]) (by simp [results, Tryd.results37, go_sem]) rfl ⟨⟨v1, v2, true, rfl, by rw [← HE1.out, ← HE2.out]; rfl, rfl, rfl⟩, ?_⟩
        exact bw_alloc (bw_alloc (bw_refl _) _) _
      | true =>
        go_wp2
        refine bodyPost_ret (v := .tuple #[.agg #[.int .i64 (-v1), .int .i64 v2], .bool true]) (by simp [results, Tryd.results37, go_sem]) rfl ⟨⟨-v1, v2, true, rfl, by rw [← HE1.out, ← HE2.out]; rfl, rfl, rfl⟩, ?_⟩
        exact bw_alloc (bw_alloc (bw_refl _) _) _
end Go.Proofs.YthkmhpkoanmbkaaDoor
