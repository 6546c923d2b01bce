/-
  Contracts of areFractions, combined and the comparison of ratios. Conditions stand in each contract.
-/
import Derived.Test.YthkmhpkoanmbkaaDoorN15
namespace Go.Proofs.YthkmhpkoanmbkaaDoor
open Go.RowKit
set_option linter.unusedVariables false

/-- A list of fractions in memory. -/
def HasF (w : World) (a : Option Addr) (fs : List (Int × Int)) : Prop :=
  0 < fs.length → ∃ g, a = some ⟨g, 0, none⟩ ∧ g < w.heap.size ∧ ∀ j, j < fs.length → w.cell? ⟨g, 2 * j, none⟩ = some (.int .i64 (fs.getD j (0, 0)).1) ∧ w.cell? ⟨g, 2 * j + 1, none⟩ = some (.int .i64 (fs.getD j (0, 0)).2)
theorem HasF.later {w w' : World} {a : Option Addr} {fs : List (Int × Int)} (h : HasF w a fs) (hb : Below w.heap.size w w') : HasF w' a fs := fun h0 => by
  obtain ⟨g, h1, h2, h3⟩ := h h0
  refine ⟨g, h1, Nat.lt_of_lt_of_le h2 hb.size, fun j hj => ?_⟩
  rw [hb.cell (p := ⟨g, 2 * j, none⟩) h2, hb.cell (p := ⟨g, 2 * j + 1, none⟩) h2]
  exact h3 j hj
def vfL (fs : List (Int × Int)) : Bool := fs.all fun f => vfB f.1 f.2
theorem vfL_bad {fs : List (Int × Int)} {k : Nat} (hk : k < fs.length) (h : vfB (fs.getD k (0, 0)).1 (fs.getD k (0, 0)).2 = false) : vfL fs = false := by
  have e : fs.getD k (0, 0) = fs[k] := by simp [List.getD, hk]
  rw [e] at h
  cases hh : vfL fs with
  | false => rfl
  | true => have := List.all_eq_true.1 hh _ (List.getElem_mem hk); rw [h] at this; cases this
theorem vfL_good {fs : List (Int × Int)} (h : ∀ j, j < fs.length → vfB (fs.getD j (0, 0)).1 (fs.getD j (0, 0)).2 = true) : vfL fs = true := by
  refine List.all_eq_true.2 fun x hx => ?_
  obtain ⟨j, hj, rfl⟩ := List.getElem_of_mem hx
  have := h j hj
  simpa [List.getD, hj] using this
theorem areFractions1_any (n d : Int) (w : World) :
    Calls Tryd.prog 45 #[.agg #[.int .i64 n, .int .i64 d]] w fun e w' => e = .returned (.bool (!vfB n d)) ∧ Below w.heap.size w w' := by
  go_enter Tryd.func45, Tryd.ntmps45
  go_wp2_with fail
  refine (ValidFraction_any n d _).mono ?_
  rintro e w1 ⟨rfl, hb⟩
  have HB := Lib.hid hb
  clear hb
  go_wp2
  go_ret
  exact ⟨rfl, bw_call (bw_alloc (bw_refl _) _) HB.out⟩
/-- What slices.IndexFunc hands back. -/
def IdxF (b : Bool) (w : World) (e : Ending) (w' : World) : Prop := ∃ r : Int, e = .returned (.int .i64 r) ∧ decide (0 ≤ r) = b ∧ Below w.heap.size w w'
theorem IndexFuncF_any (fs : List (Int × Int)) (a : Option Addr) (c : Nat) (w : World) (h : HasF w a fs) (hx : fs.length < 1000000000000) :
    Calls Tryd.prog 57 #[.slice a fs.length c, .func (Fn.func 45) #[] #[]] w (IdxF (!vfL fs) w) := by
  have H := Lib.hid h
  clear h
  obtain ⟨L, HL⟩ : ∃ L, Hid (fs.length = L) := ⟨_, Lib.hid rfl⟩
  rw [HL.out] at hx ⊢
  go_enter Tryd.func57, Tryd.ntmps57
  go_wp2
  go_loopw [5, 8] (fun _ i wr => ∃ k : Nat, k ≤ L ∧ i = .int .i64 k ∧ Hid (∀ j, j < k → vfB (fs.getD j (0, 0)).1 (fs.getD j (0, 0)).2 = true) ∧ Hid (Below w.heap.size w wr)) (fun _ i _ => L - (intOf i).toNat)
  case atStart => exact ⟨0, Nat.zero_le _, rfl, Lib.hid (fun j hj => by omega), Lib.hid (bw_refl _)⟩
  case round =>
    obtain ⟨k, hk, rfl, hg, hB⟩ := hrel
    by_cases hlt : k < L
    · obtain ⟨g, rfl, _, hc⟩ := (H.out.later hB.out) (by rw [HL.out]; omega)
      obtain ⟨q1, q2⟩ := hc k (by rw [HL.out]; omega)
      clear hc
      obtain ⟨z, hz⟩ : ∃ z, Hid (fs.getD k (0, 0) = z) := ⟨_, Lib.hid rfl⟩
      rw [hz.out] at q1 q2
      obtain ⟨n, d⟩ := z
      simp only at q1 q2
      have r0 : (0 : Int) ≤ (k : Int) := by omega
      have r1 : (k : Int) < (L : Int) := by omega
      have r2 : k * 2 = 2 * k := by omega
      cases hv : vfB n d with
      | false =>
        have HV := Lib.hid (vfL_bad (fs := fs) (k := k) (by rw [HL.out]; exact hlt) (by rw [hz.out]; exact hv))
        go_wp2_with fail
        refine (areFractions1_any n d wr).mono ?_
        rw [hv]
        rintro e w1 ⟨rfl, hb1⟩
        have HB1 := Lib.hid (bw_call hB.out hb1)
        clear hb1
        go_wp2
        go_ret
        exact ⟨k, rfl, by rw [HV.out]; simp, HB1.out⟩
      | true =>
        have HG : Hid (∀ j, j < k + 1 → vfB (fs.getD j (0, 0)).1 (fs.getD j (0, 0)).2 = true) := Lib.hid fun j hj => by
          by_cases e : j = k
          · subst e; rw [hz.out]; exact hv
          · exact hg.out j (by omega)
        go_wp2_with fail
        refine (areFractions1_any n d wr).mono ?_
        rw [hv]
        rintro e w1 ⟨rfl, hb1⟩
        have HB1 := Lib.hid (bw_call hB.out hb1)
        clear hb1
        go_wp2
        go_roundw
        case rel => exact ⟨k + 1, by omega, by go_num, HG, HB1⟩
        case measure => simp [intOf]; omega
    · have hke : k = L := by omega
      subst hke
      have HG := Lib.hid (vfL_good (fs := fs) (fun j hj => hg.out j (by rw [← HL.out]; exact hj)))
      go_wp2
      go_ret
      exact ⟨-1, rfl, by rw [HG.out]; rfl, hB.out⟩
theorem areFractions_any (fs : List (Int × Int)) (a : Option Addr) (c : Nat) (w : World) (h : HasF w a fs) (hx : fs.length < 1000000000000) :
    Calls Tryd.prog 24 #[.slice a fs.length c] w fun e w' => e = .returned (.bool (vfL fs)) ∧ Below w.heap.size w w' := by
  have H := Lib.hid h
  clear h
  go_enter Tryd.func24, Tryd.ntmps24
  go_wp2_with (first | (go_at_call 57; refine (IndexFuncF_any fs a c _ H.out hx).mono ?_; rintro e w' ⟨r, rfl, hr, hb⟩) | (go_at_call 44; go_in))
  go_ret
  exact ⟨ret_bool (by simp), hb⟩
theorem HasF.lit2 (n d m e : Int) (w : World) : HasF (w.alloc (.cells #[.int .i64 n, .int .i64 d, .int .i64 m, .int .i64 e] 25)) (some ⟨w.heap.size, 0, none⟩) [(n, d), (m, e)] := fun _ => by
  refine ⟨w.heap.size, rfl, by simp, fun j hj => ?_⟩
  have B := Blk.new w #[.int .i64 n, .int .i64 d, .int .i64 m, .int .i64 e] 25
  simp only [List.length_cons, List.length_nil] at hj
  match j, hj with
  | 0, _ => exact ⟨B.cell 0 rfl, B.cell 1 rfl⟩
  | 1, _ => exact ⟨B.cell 2 rfl, B.cell 3 rfl⟩
theorem areFractions_two {n d m e : Int} {b : Bool} (w : World) (g : Nat) (h : (vfB n d && vfB m e) = b) (hg : w.heap.size = g) :
    Calls Tryd.prog 24 #[.slice (some ⟨g, 0, none⟩) 2 2] (w.alloc (.cells #[.int .i64 n, .int .i64 d, .int .i64 m, .int .i64 e] 25)) fun e w' => e = .returned (.bool b) ∧ Below w.heap.size w w' := by
  subst hg
  exact (areFractions_any [(n, d), (m, e)] (some ⟨w.heap.size, 0, none⟩) 2 _ (HasF.lit2 n d m e w) (by simp)).mono fun e w' ⟨h1, h2⟩ => ⟨by rw [h1, ← h]; simp [vfL], bw_call (bw_alloc (bw_refl _) _) h2⟩
theorem div_zero_iff {N D : Int} (hD : 0 < D) : (absI N / gcdI (absI N) D == 0) = (N == 0) := by
  obtain ⟨n, d, k, h1, h2, h3, h4, h5, h6, h7, h8⟩ := red_exists (N := N) hD
  have e : absI N / gcdI (absI N) D = absI n := by
    rw [h6, h3]
    have : absI (n * k) = absI n * k := by
      have hk : (k.natAbs : Int) = k := Int.natAbs_of_nonneg (by omega)
      unfold absI
      rw [Int.natAbs_mul, Int.natCast_mul, hk]
    rw [this]
    exact Int.mul_ediv_cancel _ (by omega)
  rw [e]
  by_cases c : n = 0
  · subst c
    have : N = 0 := by rw [h3]; simp
    rw [this]; rfl
  · have c2 : N ≠ 0 := fun h => by
      rw [h3] at h
      rcases Int.mul_eq_zero.1 h with h | h
      · exact c h
      · omega
    rw [beq_eq_false_iff_ne.2 c2, beq_eq_false_iff_ne.2]
    unfold absI; omega
/-- The sign of a number. -/
def sgn (N : Int) : Int := if N = 0 then 0 else if N < 0 then -1 else 1
set_option maxRecDepth 100000 in
theorem rcompare_any (s1 s2 : Bool) (a1 b1 a2 b2 : Option Addr) (ca1 cb1 ca2 cb2 : Nat) (x1 y1 x2 y2 : List Int) (m1 n1 m2 n2 : Int) (w : World) (h1 : RatV w a1 ca1 x1 b1 cb1 y1 m1 n1) (h2 : RatV w a2 ca2 x2 b2 cb2 y2 m2 n2) (k1 : m1 < bp 90 ∧ n1 < bp 90) (k2 : m2 < bp 90 ∧ n2 < bp 90) :
    Calls Tryd.prog 26 #[.agg #[.bool s1, .slice a1 x1.length ca1, .slice b1 y1.length cb1], .agg #[.bool s2, .slice a2 x2.length ca2, .slice b2 y2.length cb2]] w fun e w' => e = .returned (.int .i64 (sgn (sg s1 m1 * n2 - sg s2 m2 * n1))) ∧ Below w.heap.size w w' := by
  have H1 := Lib.hid h1
  have H2 := Lib.hid h2
  have K1 := Lib.hid k1
  have K2 := Lib.hid k2
  clear h1 h2 k1 k2
  have HD : Hid (0 < n1 * n2) := Lib.hid (Int.mul_pos H1.out.pos H2.out.pos)
  obtain ⟨N, HNN⟩ : ∃ N, Hid (sg s1 m1 * n2 - sg s2 m2 * n1 = N) := ⟨_, Lib.hid rfl⟩
  rw [HNN.out]
  go_enter Tryd.func26, Tryd.ntmps26
  go_wp2_with fail
  have HV1 := H1.out.later (bw_alloc (bw_alloc (bw_refl w) (.cells #[.bool s1, .slice a1 x1.length ca1, .slice b1 y1.length cb1] 49)) (.cells #[.bool s2, .slice a2 x2.length ca2, .slice b2 y2.length cb2] 49))
  have HV2 := H2.out.later (bw_alloc (bw_alloc (bw_refl w) (.cells #[.bool s1, .slice a1 x1.length ca1, .slice b1 y1.length cb1] 49)) (.cells #[.bool s2, .slice a2 x2.length ca2, .slice b2 y2.length cb2] 49))
  have hrm := rminus_any s1 s2 a1 b1 a2 b2 ca1 cb1 ca2 cb2 x1 y1 x2 y2 m1 n1 m2 n2 _ HV1 HV2 K1.out K2.out
  rw [HNN.out] at hrm
  refine hrm.mono ?_
  clear hrm HV1 HV2
  rintro e w1 ⟨s3, p3, c3, z3, p4, c4, z4, rfl, hs3, hn3, hn4, hb3⟩
  have HS := Lib.hid hs3
  have N3 := Lib.hid hn3
  have B3 := Lib.hid (bw_call (bw_alloc (bw_alloc (bw_refl w) _) _) hb3)
  clear hs3 hn3 hn4 hb3
  go_wp2_with fail
  refine (isZero_any s3 p3 p4 c3 c4 z3 z4 _ _ (N3.out.later (bw_alloc (bw_refl _) _))).mono ?_
  rw [div_zero_iff HD.out]
  rintro e w2 ⟨rfl, hb2⟩
  have R2 : Blk w2 w1.heap.size #[.bool s3, .slice p3 z3.length c3, .slice p4 z4.length c4] 49 := Blk.later (Blk.new w1 _ _) hb2
  have q0 := R2.cell 0 rfl
  have B4 := Lib.hid (bw_call (bw_alloc B3.out _) hb2)
  clear hb2 R2
  by_cases hN : N = 0
  · have e0 : (N == 0) = true := by rw [hN]; rfl
    have e1 : Hid (sgn N = 0) := Lib.hid (by rw [hN]; rfl)
    rw [e0]
    clear hN
    go_wp2
    go_ret
    exact ⟨by rw [e1.out]; rfl, B4.out⟩
  · have e0 : (N == 0) = false := beq_eq_false_iff_ne.2 hN
    rw [e0]
    by_cases hneg : N < 0
    · have e2 : s3 = true := by rw [HS.out]; exact decide_eq_true hneg
      have e1 : Hid (sgn N = -1) := Lib.hid (by unfold sgn; rw [if_neg hN, if_pos hneg])
      subst e2
      clear hN hneg
      go_wp2
      go_ret
      exact ⟨by rw [e1.out]; rfl, B4.out⟩
    · have e2 : s3 = false := by rw [HS.out]; exact decide_eq_false hneg
      have e1 : Hid (sgn N = 1) := Lib.hid (by unfold sgn; rw [if_neg hN, if_neg hneg])
      subst e2
      clear hN hneg
      go_wp2
      go_ret
      exact ⟨by rw [e1.out]; rfl, B4.out⟩
/-- A function on ratios whose answer is a ratio of two whole numbers, for these two fractions. -/
def OfOk (k : Nat) (n d m e N D : Int) : Prop := ∀ (w : World) (s1 s2 : Bool) (a1 b1 a2 b2 : Option Addr) (ca1 cb1 ca2 cb2 : Nat) (x1 y1 x2 y2 : List Int), s1 = decide (n < 0) → s2 = decide (m < 0) → RatV w a1 ca1 x1 b1 cb1 y1 (absI n) d → RatV w a2 ca2 x2 b2 cb2 y2 (absI m) e →
  Calls Tryd.prog k #[.agg #[.bool s1, .slice a1 x1.length ca1, .slice b1 y1.length cb1], .agg #[.bool s2, .slice a2 x2.length ca2, .slice b2 y2.length cb2]] w fun e w' => RetQ N D w e w'
def cmB (n d m e N D : Int) : Bool := (vfB n d && vfB m e) && frB N D
def cmN (n d m e N D : Int) : Int := if cmB n d m e N D = true then sg (decide (N < 0)) (absI N / gcdI (absI N) D) else 0
def cmD (n d m e N D : Int) : Int := if cmB n d m e N D = true then D / gcdI (absI N) D else 0
--COMBINED
set_option maxRecDepth 100000 in
theorem combined_times (n d m e N D : Int) (w : World) (hof : vfB n d = true → vfB m e = true → OfOk 23 n d m e N D) :
    Calls Tryd.prog 20 #[.agg #[.int .i64 n, .int .i64 d], .agg #[.int .i64 m, .int .i64 e], .func (Fn.func 23) #[] #[]] w fun r w' => r = .returned (.tuple #[.agg #[.int .i64 (cmN n d m e N D), .int .i64 (cmD n d m e N D)], .bool (cmB n d m e N D)]) ∧ Below w.heap.size w w' := by
  have HOF := Lib.hid hof
  clear hof
  cases hv : (vfB n d && vfB m e) with
  | false =>
    have e1 : Hid (cmB n d m e N D = false) := Lib.hid (by unfold cmB; rw [hv]; rfl)
    have e2 : Hid (cmN n d m e N D = 0) := Lib.hid (by unfold cmN; rw [e1.out]; rfl)
    have e3 : Hid (cmD n d m e N D = 0) := Lib.hid (by unfold cmD; rw [e1.out]; rfl)
    rw [e1.out, e2.out, e3.out]
    go_enter Tryd.func20, Tryd.ntmps20
    go_wp2_with fail
    refine (areFractions_two _ _ hv (by simp)).mono ?_
    rintro r w1 ⟨rfl, hb1⟩
    have HB := Lib.hid (bw_call (bw_alloc (bw_alloc (bw_alloc (bw_refl w) _) _) _) hb1)
    have E2 : Blk w1 (w.heap.size + 1 + 1) #[.int .i64 0, .int .i64 0] 25 := (Blk.new' (by simp) _ _).later hb1
    have g0 := E2.cell 0 rfl
    have g1 := E2.cell 1 rfl
    have e0 := E2.free 0
    have e1' := E2.free 1
    clear hb1
    go_wp2
    refine bodyPost_ret (v := .tuple #[.agg #[.int .i64 0, .int .i64 0], .bool false]) (by simp [results, Tryd.results20, go_sem, g0, g1]) rfl ⟨rfl, ?_⟩
    exact bw_setCell (bw_setCell HB.out (by simp; omega) _) (by simp; omega) _
  | true =>
    have hv1 : vfB n d = true := by rw [Bool.and_eq_true] at hv; exact hv.1
    have hv2 : vfB m e = true := by rw [Bool.and_eq_true] at hv; exact hv.2
    obtain ⟨v1, v2, v3⟩ := vfB_true hv1
    obtain ⟨u1, u2, u3⟩ := vfB_true hv2
    have hof := HOF.out hv1 hv2
    have HOF2 := Lib.hid hof
    have HE : Hid (cmB n d m e N D = frB N D) := Lib.hid (by unfold cmB; rw [hv]; rfl)
    clear hof HOF v3 u3 hv1 hv2
    go_enter Tryd.func20, Tryd.ntmps20
    go_wp2_with fail
    refine (areFractions_two _ _ hv (by simp)).mono ?_
    rintro r w1 ⟨rfl, hb1⟩
    have E0 : Blk w1 w.heap.size #[.int .i64 n, .int .i64 d] 25 := ((((Blk.new w _ _).alloc _).alloc _)).later hb1
    have E1 : Blk w1 (w.heap.size + 1) #[.int .i64 m, .int .i64 e] 25 := ((Blk.new' (by simp) _ _).alloc _).later hb1
    have HB := Lib.hid (bw_call (bw_alloc (bw_alloc (bw_alloc (bw_refl w) _) _) _) hb1)
    have E2 : Blk w1 (w.heap.size + 1 + 1) #[.int .i64 0, .int .i64 0] 25 := (Blk.new' (by simp) _ _).later hb1
    have q00 := E0.cell 0 rfl
    have q01 := E0.cell 1 rfl
    have q10 := E1.cell 0 rfl
    have q11 := E1.cell 1 rfl
    clear hb1
    have R0 : Hid (∀ W, Below w.heap.size w W → Calls Tryd.prog 25 #[.agg #[.int .i64 n, .int .i64 d]] W fun e w' => RetR (fun s => s = decide (n < 0)) (absI n) d W e w') := Lib.hid (fun W _ => ratioOf_any n d W v2.1 v2.2 (by omega) v1.2)
    have R1 : Hid (∀ W, Below w.heap.size w W → Calls Tryd.prog 25 #[.agg #[.int .i64 m, .int .i64 e]] W fun e' w' => RetR (fun s => s = decide (m < 0)) (absI m) e W e' w') := Lib.hid (fun W _ => ratioOf_any m e W u2.1 u2.2 (by omega) u1.2)
    have n02 : ¬ w.heap.size = w.heap.size + 1 + 1 := by omega
    have n20 : ¬ w.heap.size + 1 + 1 = w.heap.size := by omega
    have n12 : ¬ w.heap.size + 1 = w.heap.size + 1 + 1 := by omega
    have n21 : ¬ w.heap.size + 1 + 1 = w.heap.size + 1 := by omega
    go_wp2_with fail
    go_region_held3 (fun w' => w'.cell? ⟨w.heap.size, 0, none⟩ = some (.int .i64 n) ∧ w'.cell? ⟨w.heap.size, 1, none⟩ = some (.int .i64 d) ∧ w'.cell? ⟨w.heap.size + 1, 0, none⟩ = some (.int .i64 m) ∧ w'.cell? ⟨w.heap.size + 1, 1, none⟩ = some (.int .i64 e)) (go_keep)
      (first
        | (go_at_call 25; (with_reducible refine (R0.out _ (bw_drew HB.out)).mono ?_); rintro e w2 ⟨s2, p2, c2, z2, p3, c3, z3, rfl, hs2, hn2, hn3, hb2⟩
           have HS2 := Lib.hid hs2
           clear hs2
           have B2 := bw_call (bw_drew HB.out) hb2
           have E3 := E0.drew.later hb2; have E4 := E1.drew.later hb2; have E5 := E2.drew.later hb2
           have q20 := E3.cell 0 rfl; have q21 := E3.cell 1 rfl; have q22 := E4.cell 0 rfl; have q23 := E4.cell 1 rfl)
        | (go_at_call 25; (with_reducible refine (R1.out _ B2).mono ?_); rintro e' w4 ⟨s4, p4, c4, z4, p5, c5, z5, rfl, hs4, hn4, hn5, hb4⟩
           have HS4 := Lib.hid hs4
           clear hs4
           have B4 := bw_call B2 hb4
           have E6 := E3.later hb4; have E7 := E4.later hb4; have E8 := E5.later hb4
           have q30 := E6.cell 0 rfl; have q31 := E6.cell 1 rfl; have q32 := E7.cell 0 rfl; have q33 := E7.cell 1 rfl
           have V1 : RatV w4 p2 c2 z2 p3 c3 z3 (absI n) d := ⟨hn2.later hb4, hn3.later hb4, by omega⟩
           have V2 : RatV w4 p4 c4 z4 p5 c5 z5 (absI m) e := ⟨hn4, hn5, by omega⟩)
        | (go_at_call 37; refine (rfraction_any _ _ _ _ _ _ _ _ _ _ hn7 hn8).mono ?_; rintro e'' w9 ⟨⟨p9, q9, b9, rfl, hb9, hp9, hq9⟩, hb10⟩
           have HX := Lib.hid (And.intro hb9 (And.intro hp9 hq9))
           clear hb9 hp9 hq9
           have B10 := bw_call B7 hb10
           have F3 := E9.later hb10; have F4 := E10.later hb10; have F5 := E11.later hb10
           have q50 := F3.cell 0 rfl; have q51 := F3.cell 1 rfl; have q52 := F4.cell 0 rfl; have q53 := F4.cell 1 rfl
           have g0 := F5.cell 0 rfl; have g1 := F5.cell 1 rfl; have e0 := F5.free 0; have e1 := F5.free 1)
        | (go_at_call 23; refine (HOF2.out w4 s2 s4 p2 p3 p4 p5 c2 c3 c4 c5 z2 z3 z4 z5 HS2.out HS4.out V1 V2).mono ?_; rintro e'' w7 ⟨s7, p7, c7, z7, p8, c8, z8, rfl, hs7, hn7, hn8, hb7⟩
           have HS7 := Lib.hid hs7
           clear hs7
           have B7 := bw_call B4 hb7
           have E9 := E6.later hb7; have E10 := E7.later hb7; have E11 := E8.later hb7
           have q40 := E9.cell 0 rfl; have q41 := E9.cell 1 rfl; have q42 := E10.cell 0 rfl; have q43 := E10.cell 1 rfl))
    have B10 := Lib.hid B10
    clear hn2 hn3 hn4 hn5 hn7 hn8 V1 V2 hb2 hb4 hb7 hb10 B2 B4 B7
    go_wp2
    refine bodyPost_ret (v := .tuple #[.agg #[.int .i64 p9, .int .i64 q9], .bool b9]) (by simp [results, Tryd.results20, go_sem, g0, g1]) rfl ⟨?_, ?_⟩
    · obtain ⟨x1, x2, x3⟩ := HX.out
      have x4 : b9 = cmB n d m e N D := by rw [HE.out, x1]; rfl
      have x5 : p9 = cmN n d m e N D := by rw [x2, x4, HS7.out]; rfl
      have x6 : q9 = cmD n d m e N D := by rw [x3, x4]; rfl
      rw [x4, x5, x6]
    · exact bw_setCell (bw_setCell B10.out (by simp; omega) _) (by simp; omega) _
set_option maxRecDepth 100000 in
theorem combined_over (n d m e N D : Int) (w : World) (hof : vfB n d = true → vfB m e = true → OfOk 33 n d m e N D) :
    Calls Tryd.prog 20 #[.agg #[.int .i64 n, .int .i64 d], .agg #[.int .i64 m, .int .i64 e], .func (Fn.func 33) #[] #[]] w fun r w' => r = .returned (.tuple #[.agg #[.int .i64 (cmN n d m e N D), .int .i64 (cmD n d m e N D)], .bool (cmB n d m e N D)]) ∧ Below w.heap.size w w' := by
  have HOF := Lib.hid hof
  clear hof
  cases hv : (vfB n d && vfB m e) with
  | false =>
    have e1 : Hid (cmB n d m e N D = false) := Lib.hid (by unfold cmB; rw [hv]; rfl)
    have e2 : Hid (cmN n d m e N D = 0) := Lib.hid (by unfold cmN; rw [e1.out]; rfl)
    have e3 : Hid (cmD n d m e N D = 0) := Lib.hid (by unfold cmD; rw [e1.out]; rfl)
    rw [e1.out, e2.out, e3.out]
    go_enter Tryd.func20, Tryd.ntmps20
    go_wp2_with fail
    refine (areFractions_two _ _ hv (by simp)).mono ?_
    rintro r w1 ⟨rfl, hb1⟩
    have HB := Lib.hid (bw_call (bw_alloc (bw_alloc (bw_alloc (bw_refl w) _) _) _) hb1)
    have E2 : Blk w1 (w.heap.size + 1 + 1) #[.int .i64 0, .int .i64 0] 25 := (Blk.new' (by simp) _ _).later hb1
    have g0 := E2.cell 0 rfl
    have g1 := E2.cell 1 rfl
    have e0 := E2.free 0
    have e1' := E2.free 1
    clear hb1
    go_wp2
    refine bodyPost_ret (v := .tuple #[.agg #[.int .i64 0, .int .i64 0], .bool false]) (by simp [results, Tryd.results20, go_sem, g0, g1]) rfl ⟨rfl, ?_⟩
    exact bw_setCell (bw_setCell HB.out (by simp; omega) _) (by simp; omega) _
  | true =>
    have hv1 : vfB n d = true := by rw [Bool.and_eq_true] at hv; exact hv.1
    have hv2 : vfB m e = true := by rw [Bool.and_eq_true] at hv; exact hv.2
    obtain ⟨v1, v2, v3⟩ := vfB_true hv1
    obtain ⟨u1, u2, u3⟩ := vfB_true hv2
    have hof := HOF.out hv1 hv2
    have HOF2 := Lib.hid hof
    have HE : Hid (cmB n d m e N D = frB N D) := Lib.hid (by unfold cmB; rw [hv]; rfl)
    clear hof HOF v3 u3 hv1 hv2
    go_enter Tryd.func20, Tryd.ntmps20
    go_wp2_with fail
    refine (areFractions_two _ _ hv (by simp)).mono ?_
    rintro r w1 ⟨rfl, hb1⟩
    have E0 : Blk w1 w.heap.size #[.int .i64 n, .int .i64 d] 25 := ((((Blk.new w _ _).alloc _).alloc _)).later hb1
    have E1 : Blk w1 (w.heap.size + 1) #[.int .i64 m, .int .i64 e] 25 := ((Blk.new' (by simp) _ _).alloc _).later hb1
    have HB := Lib.hid (bw_call (bw_alloc (bw_alloc (bw_alloc (bw_refl w) _) _) _) hb1)
    have E2 : Blk w1 (w.heap.size + 1 + 1) #[.int .i64 0, .int .i64 0] 25 := (Blk.new' (by simp) _ _).later hb1
    have q00 := E0.cell 0 rfl
    have q01 := E0.cell 1 rfl
    have q10 := E1.cell 0 rfl
    have q11 := E1.cell 1 rfl
    clear hb1
    have R0 : Hid (∀ W, Below w.heap.size w W → Calls Tryd.prog 25 #[.agg #[.int .i64 n, .int .i64 d]] W fun e w' => RetR (fun s => s = decide (n < 0)) (absI n) d W e w') := Lib.hid (fun W _ => ratioOf_any n d W v2.1 v2.2 (by omega) v1.2)
    have R1 : Hid (∀ W, Below w.heap.size w W → Calls Tryd.prog 25 #[.agg #[.int .i64 m, .int .i64 e]] W fun e' w' => RetR (fun s => s = decide (m < 0)) (absI m) e W e' w') := Lib.hid (fun W _ => ratioOf_any m e W u2.1 u2.2 (by omega) u1.2)
    have n02 : ¬ w.heap.size = w.heap.size + 1 + 1 := by omega
    have n20 : ¬ w.heap.size + 1 + 1 = w.heap.size := by omega
    have n12 : ¬ w.heap.size + 1 = w.heap.size + 1 + 1 := by omega
    have n21 : ¬ w.heap.size + 1 + 1 = w.heap.size + 1 := by omega
    go_wp2_with fail
    go_region_held3 (fun w' => w'.cell? ⟨w.heap.size, 0, none⟩ = some (.int .i64 n) ∧ w'.cell? ⟨w.heap.size, 1, none⟩ = some (.int .i64 d) ∧ w'.cell? ⟨w.heap.size + 1, 0, none⟩ = some (.int .i64 m) ∧ w'.cell? ⟨w.heap.size + 1, 1, none⟩ = some (.int .i64 e)) (go_keep)
      (first
        | (go_at_call 25; (with_reducible refine (R0.out _ (bw_drew HB.out)).mono ?_); rintro e w2 ⟨s2, p2, c2, z2, p3, c3, z3, rfl, hs2, hn2, hn3, hb2⟩
           have HS2 := Lib.hid hs2
           clear hs2
           have B2 := bw_call (bw_drew HB.out) hb2
           have E3 := E0.drew.later hb2; have E4 := E1.drew.later hb2; have E5 := E2.drew.later hb2
           have q20 := E3.cell 0 rfl; have q21 := E3.cell 1 rfl; have q22 := E4.cell 0 rfl; have q23 := E4.cell 1 rfl)
        | (go_at_call 25; (with_reducible refine (R1.out _ B2).mono ?_); rintro e' w4 ⟨s4, p4, c4, z4, p5, c5, z5, rfl, hs4, hn4, hn5, hb4⟩
           have HS4 := Lib.hid hs4
           clear hs4
           have B4 := bw_call B2 hb4
           have E6 := E3.later hb4; have E7 := E4.later hb4; have E8 := E5.later hb4
           have q30 := E6.cell 0 rfl; have q31 := E6.cell 1 rfl; have q32 := E7.cell 0 rfl; have q33 := E7.cell 1 rfl
           have V1 : RatV w4 p2 c2 z2 p3 c3 z3 (absI n) d := ⟨hn2.later hb4, hn3.later hb4, by omega⟩
           have V2 : RatV w4 p4 c4 z4 p5 c5 z5 (absI m) e := ⟨hn4, hn5, by omega⟩)
        | (go_at_call 37; refine (rfraction_any _ _ _ _ _ _ _ _ _ _ hn7 hn8).mono ?_; rintro e'' w9 ⟨⟨p9, q9, b9, rfl, hb9, hp9, hq9⟩, hb10⟩
           have HX := Lib.hid (And.intro hb9 (And.intro hp9 hq9))
           clear hb9 hp9 hq9
           have B10 := bw_call B7 hb10
           have F3 := E9.later hb10; have F4 := E10.later hb10; have F5 := E11.later hb10
           have q50 := F3.cell 0 rfl; have q51 := F3.cell 1 rfl; have q52 := F4.cell 0 rfl; have q53 := F4.cell 1 rfl
           have g0 := F5.cell 0 rfl; have g1 := F5.cell 1 rfl; have e0 := F5.free 0; have e1 := F5.free 1)
        | (go_at_call 33; refine (HOF2.out w4 s2 s4 p2 p3 p4 p5 c2 c3 c4 c5 z2 z3 z4 z5 HS2.out HS4.out V1 V2).mono ?_; rintro e'' w7 ⟨s7, p7, c7, z7, p8, c8, z8, rfl, hs7, hn7, hn8, hb7⟩
           have HS7 := Lib.hid hs7
           clear hs7
           have B7 := bw_call B4 hb7
           have E9 := E6.later hb7; have E10 := E7.later hb7; have E11 := E8.later hb7
           have q40 := E9.cell 0 rfl; have q41 := E9.cell 1 rfl; have q42 := E10.cell 0 rfl; have q43 := E10.cell 1 rfl))
    have B10 := Lib.hid B10
    clear hn2 hn3 hn4 hn5 hn7 hn8 V1 V2 hb2 hb4 hb7 hb10 B2 B4 B7
    go_wp2
    refine bodyPost_ret (v := .tuple #[.agg #[.int .i64 p9, .int .i64 q9], .bool b9]) (by simp [results, Tryd.results20, go_sem, g0, g1]) rfl ⟨?_, ?_⟩
    · obtain ⟨x1, x2, x3⟩ := HX.out
      have x4 : b9 = cmB n d m e N D := by rw [HE.out, x1]; rfl
      have x5 : p9 = cmN n d m e N D := by rw [x2, x4, HS7.out]; rfl
      have x6 : q9 = cmD n d m e N D := by rw [x3, x4]; rfl
      rw [x4, x5, x6]
    · exact bw_setCell (bw_setCell B10.out (by simp; omega) _) (by simp; omega) _
set_option maxRecDepth 100000 in
theorem combined_plus (n d m e N D : Int) (w : World) (hof : vfB n d = true → vfB m e = true → OfOk 21 n d m e N D) :
    Calls Tryd.prog 20 #[.agg #[.int .i64 n, .int .i64 d], .agg #[.int .i64 m, .int .i64 e], .func (Fn.func 21) #[] #[]] w fun r w' => r = .returned (.tuple #[.agg #[.int .i64 (cmN n d m e N D), .int .i64 (cmD n d m e N D)], .bool (cmB n d m e N D)]) ∧ Below w.heap.size w w' := by
  have HOF := Lib.hid hof
  clear hof
  cases hv : (vfB n d && vfB m e) with
  | false =>
    have e1 : Hid (cmB n d m e N D = false) := Lib.hid (by unfold cmB; rw [hv]; rfl)
    have e2 : Hid (cmN n d m e N D = 0) := Lib.hid (by unfold cmN; rw [e1.out]; rfl)
    have e3 : Hid (cmD n d m e N D = 0) := Lib.hid (by unfold cmD; rw [e1.out]; rfl)
    rw [e1.out, e2.out, e3.out]
    go_enter Tryd.func20, Tryd.ntmps20
    go_wp2_with fail
    refine (areFractions_two _ _ hv (by simp)).mono ?_
    rintro r w1 ⟨rfl, hb1⟩
    have HB := Lib.hid (bw_call (bw_alloc (bw_alloc (bw_alloc (bw_refl w) _) _) _) hb1)
    have E2 : Blk w1 (w.heap.size + 1 + 1) #[.int .i64 0, .int .i64 0] 25 := (Blk.new' (by simp) _ _).later hb1
    have g0 := E2.cell 0 rfl
    have g1 := E2.cell 1 rfl
    have e0 := E2.free 0
    have e1' := E2.free 1
    clear hb1
    go_wp2
    refine bodyPost_ret (v := .tuple #[.agg #[.int .i64 0, .int .i64 0], .bool false]) (by simp [results, Tryd.results20, go_sem, g0, g1]) rfl ⟨rfl, ?_⟩
    exact bw_setCell (bw_setCell HB.out (by simp; omega) _) (by simp; omega) _
  | true =>
    have hv1 : vfB n d = true := by rw [Bool.and_eq_true] at hv; exact hv.1
    have hv2 : vfB m e = true := by rw [Bool.and_eq_true] at hv; exact hv.2
    obtain ⟨v1, v2, v3⟩ := vfB_true hv1
    obtain ⟨u1, u2, u3⟩ := vfB_true hv2
    have hof := HOF.out hv1 hv2
    have HOF2 := Lib.hid hof
    have HE : Hid (cmB n d m e N D = frB N D) := Lib.hid (by unfold cmB; rw [hv]; rfl)
    clear hof HOF v3 u3 hv1 hv2
    go_enter Tryd.func20, Tryd.ntmps20
    go_wp2_with fail
    refine (areFractions_two _ _ hv (by simp)).mono ?_
    rintro r w1 ⟨rfl, hb1⟩
    have E0 : Blk w1 w.heap.size #[.int .i64 n, .int .i64 d] 25 := ((((Blk.new w _ _).alloc _).alloc _)).later hb1
    have E1 : Blk w1 (w.heap.size + 1) #[.int .i64 m, .int .i64 e] 25 := ((Blk.new' (by simp) _ _).alloc _).later hb1
    have HB := Lib.hid (bw_call (bw_alloc (bw_alloc (bw_alloc (bw_refl w) _) _) _) hb1)
    have E2 : Blk w1 (w.heap.size + 1 + 1) #[.int .i64 0, .int .i64 0] 25 := (Blk.new' (by simp) _ _).later hb1
    have q00 := E0.cell 0 rfl
    have q01 := E0.cell 1 rfl
    have q10 := E1.cell 0 rfl
    have q11 := E1.cell 1 rfl
    clear hb1
    have R0 : Hid (∀ W, Below w.heap.size w W → Calls Tryd.prog 25 #[.agg #[.int .i64 n, .int .i64 d]] W fun e w' => RetR (fun s => s = decide (n < 0)) (absI n) d W e w') := Lib.hid (fun W _ => ratioOf_any n d W v2.1 v2.2 (by omega) v1.2)
    have R1 : Hid (∀ W, Below w.heap.size w W → Calls Tryd.prog 25 #[.agg #[.int .i64 m, .int .i64 e]] W fun e' w' => RetR (fun s => s = decide (m < 0)) (absI m) e W e' w') := Lib.hid (fun W _ => ratioOf_any m e W u2.1 u2.2 (by omega) u1.2)
    have n02 : ¬ w.heap.size = w.heap.size + 1 + 1 := by omega
    have n20 : ¬ w.heap.size + 1 + 1 = w.heap.size := by omega
    have n12 : ¬ w.heap.size + 1 = w.heap.size + 1 + 1 := by omega
    have n21 : ¬ w.heap.size + 1 + 1 = w.heap.size + 1 := by omega
    go_wp2_with fail
    go_region_held3 (fun w' => w'.cell? ⟨w.heap.size, 0, none⟩ = some (.int .i64 n) ∧ w'.cell? ⟨w.heap.size, 1, none⟩ = some (.int .i64 d) ∧ w'.cell? ⟨w.heap.size + 1, 0, none⟩ = some (.int .i64 m) ∧ w'.cell? ⟨w.heap.size + 1, 1, none⟩ = some (.int .i64 e)) (go_keep)
      (first
        | (go_at_call 25; (with_reducible refine (R0.out _ (bw_drew HB.out)).mono ?_); rintro e w2 ⟨s2, p2, c2, z2, p3, c3, z3, rfl, hs2, hn2, hn3, hb2⟩
           have HS2 := Lib.hid hs2
           clear hs2
           have B2 := bw_call (bw_drew HB.out) hb2
           have E3 := E0.drew.later hb2; have E4 := E1.drew.later hb2; have E5 := E2.drew.later hb2
           have q20 := E3.cell 0 rfl; have q21 := E3.cell 1 rfl; have q22 := E4.cell 0 rfl; have q23 := E4.cell 1 rfl)
        | (go_at_call 25; (with_reducible refine (R1.out _ B2).mono ?_); rintro e' w4 ⟨s4, p4, c4, z4, p5, c5, z5, rfl, hs4, hn4, hn5, hb4⟩
           have HS4 := Lib.hid hs4
           clear hs4
           have B4 := bw_call B2 hb4
           have E6 := E3.later hb4; have E7 := E4.later hb4; have E8 := E5.later hb4
           have q30 := E6.cell 0 rfl; have q31 := E6.cell 1 rfl; have q32 := E7.cell 0 rfl; have q33 := E7.cell 1 rfl
           have V1 : RatV w4 p2 c2 z2 p3 c3 z3 (absI n) d := ⟨hn2.later hb4, hn3.later hb4, by omega⟩
           have V2 : RatV w4 p4 c4 z4 p5 c5 z5 (absI m) e := ⟨hn4, hn5, by omega⟩)
        | (go_at_call 37; refine (rfraction_any _ _ _ _ _ _ _ _ _ _ hn7 hn8).mono ?_; rintro e'' w9 ⟨⟨p9, q9, b9, rfl, hb9, hp9, hq9⟩, hb10⟩
           have HX := Lib.hid (And.intro hb9 (And.intro hp9 hq9))
           clear hb9 hp9 hq9
           have B10 := bw_call B7 hb10
           have F3 := E9.later hb10; have F4 := E10.later hb10; have F5 := E11.later hb10
           have q50 := F3.cell 0 rfl; have q51 := F3.cell 1 rfl; have q52 := F4.cell 0 rfl; have q53 := F4.cell 1 rfl
           have g0 := F5.cell 0 rfl; have g1 := F5.cell 1 rfl; have e0 := F5.free 0; have e1 := F5.free 1)
        | (go_at_call 21; refine (HOF2.out w4 s2 s4 p2 p3 p4 p5 c2 c3 c4 c5 z2 z3 z4 z5 HS2.out HS4.out V1 V2).mono ?_; rintro e'' w7 ⟨s7, p7, c7, z7, p8, c8, z8, rfl, hs7, hn7, hn8, hb7⟩
           have HS7 := Lib.hid hs7
           clear hs7
           have B7 := bw_call B4 hb7
           have E9 := E6.later hb7; have E10 := E7.later hb7; have E11 := E8.later hb7
           have q40 := E9.cell 0 rfl; have q41 := E9.cell 1 rfl; have q42 := E10.cell 0 rfl; have q43 := E10.cell 1 rfl))
    have B10 := Lib.hid B10
    clear hn2 hn3 hn4 hn5 hn7 hn8 V1 V2 hb2 hb4 hb7 hb10 B2 B4 B7
    go_wp2
    refine bodyPost_ret (v := .tuple #[.agg #[.int .i64 p9, .int .i64 q9], .bool b9]) (by simp [results, Tryd.results20, go_sem, g0, g1]) rfl ⟨?_, ?_⟩
    · obtain ⟨x1, x2, x3⟩ := HX.out
      have x4 : b9 = cmB n d m e N D := by rw [HE.out, x1]; rfl
      have x5 : p9 = cmN n d m e N D := by rw [x2, x4, HS7.out]; rfl
      have x6 : q9 = cmD n d m e N D := by rw [x3, x4]; rfl
      rw [x4, x5, x6]
    · exact bw_setCell (bw_setCell B10.out (by simp; omega) _) (by simp; omega) _
set_option maxRecDepth 100000 in
theorem combined_minus (n d m e N D : Int) (w : World) (hof : vfB n d = true → vfB m e = true → OfOk 22 n d m e N D) :
    Calls Tryd.prog 20 #[.agg #[.int .i64 n, .int .i64 d], .agg #[.int .i64 m, .int .i64 e], .func (Fn.func 22) #[] #[]] w fun r w' => r = .returned (.tuple #[.agg #[.int .i64 (cmN n d m e N D), .int .i64 (cmD n d m e N D)], .bool (cmB n d m e N D)]) ∧ Below w.heap.size w w' := by
  have HOF := Lib.hid hof
  clear hof
  cases hv : (vfB n d && vfB m e) with
  | false =>
    have e1 : Hid (cmB n d m e N D = false) := Lib.hid (by unfold cmB; rw [hv]; rfl)
    have e2 : Hid (cmN n d m e N D = 0) := Lib.hid (by unfold cmN; rw [e1.out]; rfl)
    have e3 : Hid (cmD n d m e N D = 0) := Lib.hid (by unfold cmD; rw [e1.out]; rfl)
    rw [e1.out, e2.out, e3.out]
    go_enter Tryd.func20, Tryd.ntmps20
    go_wp2_with fail
    refine (areFractions_two _ _ hv (by simp)).mono ?_
    rintro r w1 ⟨rfl, hb1⟩
    have HB := Lib.hid (bw_call (bw_alloc (bw_alloc (bw_alloc (bw_refl w) _) _) _) hb1)
    have E2 : Blk w1 (w.heap.size + 1 + 1) #[.int .i64 0, .int .i64 0] 25 := (Blk.new' (by simp) _ _).later hb1
    have g0 := E2.cell 0 rfl
    have g1 := E2.cell 1 rfl
    have e0 := E2.free 0
    have e1' := E2.free 1
    clear hb1
    go_wp2
    refine bodyPost_ret (v := .tuple #[.agg #[.int .i64 0, .int .i64 0], .bool false]) (by simp [results, Tryd.results20, go_sem, g0, g1]) rfl ⟨rfl, ?_⟩
    exact bw_setCell (bw_setCell HB.out (by simp; omega) _) (by simp; omega) _
  | true =>
    have hv1 : vfB n d = true := by rw [Bool.and_eq_true] at hv; exact hv.1
    have hv2 : vfB m e = true := by rw [Bool.and_eq_true] at hv; exact hv.2
    obtain ⟨v1, v2, v3⟩ := vfB_true hv1
    obtain ⟨u1, u2, u3⟩ := vfB_true hv2
    have hof := HOF.out hv1 hv2
    have HOF2 := Lib.hid hof
    have HE : Hid (cmB n d m e N D = frB N D) := Lib.hid (by unfold cmB; rw [hv]; rfl)
    clear hof HOF v3 u3 hv1 hv2
    go_enter Tryd.func20, Tryd.ntmps20
    go_wp2_with fail
    refine (areFractions_two _ _ hv (by simp)).mono ?_
    rintro r w1 ⟨rfl, hb1⟩
    have E0 : Blk w1 w.heap.size #[.int .i64 n, .int .i64 d] 25 := ((((Blk.new w _ _).alloc _).alloc _)).later hb1
    have E1 : Blk w1 (w.heap.size + 1) #[.int .i64 m, .int .i64 e] 25 := ((Blk.new' (by simp) _ _).alloc _).later hb1
    have HB := Lib.hid (bw_call (bw_alloc (bw_alloc (bw_alloc (bw_refl w) _) _) _) hb1)
    have E2 : Blk w1 (w.heap.size + 1 + 1) #[.int .i64 0, .int .i64 0] 25 := (Blk.new' (by simp) _ _).later hb1
    have q00 := E0.cell 0 rfl
    have q01 := E0.cell 1 rfl
    have q10 := E1.cell 0 rfl
    have q11 := E1.cell 1 rfl
    clear hb1
    have R0 : Hid (∀ W, Below w.heap.size w W → Calls Tryd.prog 25 #[.agg #[.int .i64 n, .int .i64 d]] W fun e w' => RetR (fun s => s = decide (n < 0)) (absI n) d W e w') := Lib.hid (fun W _ => ratioOf_any n d W v2.1 v2.2 (by omega) v1.2)
    have R1 : Hid (∀ W, Below w.heap.size w W → Calls Tryd.prog 25 #[.agg #[.int .i64 m, .int .i64 e]] W fun e' w' => RetR (fun s => s = decide (m < 0)) (absI m) e W e' w') := Lib.hid (fun W _ => ratioOf_any m e W u2.1 u2.2 (by omega) u1.2)
    have n02 : ¬ w.heap.size = w.heap.size + 1 + 1 := by omega
    have n20 : ¬ w.heap.size + 1 + 1 = w.heap.size := by omega
    have n12 : ¬ w.heap.size + 1 = w.heap.size + 1 + 1 := by omega
    have n21 : ¬ w.heap.size + 1 + 1 = w.heap.size + 1 := by omega
    go_wp2_with fail
    go_region_held3 (fun w' => w'.cell? ⟨w.heap.size, 0, none⟩ = some (.int .i64 n) ∧ w'.cell? ⟨w.heap.size, 1, none⟩ = some (.int .i64 d) ∧ w'.cell? ⟨w.heap.size + 1, 0, none⟩ = some (.int .i64 m) ∧ w'.cell? ⟨w.heap.size + 1, 1, none⟩ = some (.int .i64 e)) (go_keep)
      (first
        | (go_at_call 25; (with_reducible refine (R0.out _ (bw_drew HB.out)).mono ?_); rintro e w2 ⟨s2, p2, c2, z2, p3, c3, z3, rfl, hs2, hn2, hn3, hb2⟩
           have HS2 := Lib.hid hs2
           clear hs2
           have B2 := bw_call (bw_drew HB.out) hb2
           have E3 := E0.drew.later hb2; have E4 := E1.drew.later hb2; have E5 := E2.drew.later hb2
           have q20 := E3.cell 0 rfl; have q21 := E3.cell 1 rfl; have q22 := E4.cell 0 rfl; have q23 := E4.cell 1 rfl)
        | (go_at_call 25; (with_reducible refine (R1.out _ B2).mono ?_); rintro e' w4 ⟨s4, p4, c4, z4, p5, c5, z5, rfl, hs4, hn4, hn5, hb4⟩
           have HS4 := Lib.hid hs4
           clear hs4
           have B4 := bw_call B2 hb4
           have E6 := E3.later hb4; have E7 := E4.later hb4; have E8 := E5.later hb4
           have q30 := E6.cell 0 rfl; have q31 := E6.cell 1 rfl; have q32 := E7.cell 0 rfl; have q33 := E7.cell 1 rfl
           have V1 : RatV w4 p2 c2 z2 p3 c3 z3 (absI n) d := ⟨hn2.later hb4, hn3.later hb4, by omega⟩
           have V2 : RatV w4 p4 c4 z4 p5 c5 z5 (absI m) e := ⟨hn4, hn5, by omega⟩)
        | (go_at_call 37; refine (rfraction_any _ _ _ _ _ _ _ _ _ _ hn7 hn8).mono ?_; rintro e'' w9 ⟨⟨p9, q9, b9, rfl, hb9, hp9, hq9⟩, hb10⟩
           have HX := Lib.hid (And.intro hb9 (And.intro hp9 hq9))
           clear hb9 hp9 hq9
           have B10 := bw_call B7 hb10
           have F3 := E9.later hb10; have F4 := E10.later hb10; have F5 := E11.later hb10
           have q50 := F3.cell 0 rfl; have q51 := F3.cell 1 rfl; have q52 := F4.cell 0 rfl; have q53 := F4.cell 1 rfl
           have g0 := F5.cell 0 rfl; have g1 := F5.cell 1 rfl; have e0 := F5.free 0; have e1 := F5.free 1)
        | (go_at_call 22; refine (HOF2.out w4 s2 s4 p2 p3 p4 p5 c2 c3 c4 c5 z2 z3 z4 z5 HS2.out HS4.out V1 V2).mono ?_; rintro e'' w7 ⟨s7, p7, c7, z7, p8, c8, z8, rfl, hs7, hn7, hn8, hb7⟩
           have HS7 := Lib.hid hs7
           clear hs7
           have B7 := bw_call B4 hb7
           have E9 := E6.later hb7; have E10 := E7.later hb7; have E11 := E8.later hb7
           have q40 := E9.cell 0 rfl; have q41 := E9.cell 1 rfl; have q42 := E10.cell 0 rfl; have q43 := E10.cell 1 rfl))
    have B10 := Lib.hid B10
    clear hn2 hn3 hn4 hn5 hn7 hn8 V1 V2 hb2 hb4 hb7 hb10 B2 B4 B7
    go_wp2
    refine bodyPost_ret (v := .tuple #[.agg #[.int .i64 p9, .int .i64 q9], .bool b9]) (by simp [results, Tryd.results20, go_sem, g0, g1]) rfl ⟨?_, ?_⟩
    · obtain ⟨x1, x2, x3⟩ := HX.out
      have x4 : b9 = cmB n d m e N D := by rw [HE.out, x1]; rfl
      have x5 : p9 = cmN n d m e N D := by rw [x2, x4, HS7.out]; rfl
      have x6 : q9 = cmD n d m e N D := by rw [x3, x4]; rfl
      rw [x4, x5, x6]
    · exact bw_setCell (bw_setCell B10.out (by simp; omega) _) (by simp; omega) _
--COMBINED END
end Go.Proofs.YthkmhpkoanmbkaaDoor
