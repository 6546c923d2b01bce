/-
  Walk of the law FnFractions: it returns true for every argument, where the listed variables of the library lie as their initialisers lay them.
-/
import Derived.Test.YthkmhpkoanmbkaaDoorN20
import Derived.Test.YthkmhpkoanmbkaaDoorM22
import Derived.Test.YthkmhpkoanmbkaaDoorRf
import Derived.Test.YthkmhpkoanmbkaaDoorW26
import Derived.Test.YthkmhpkoanmbkaaDoorC4
namespace Go.Proofs.YthkmhpkoanmbkaaDoor
open Go.RowKit
set_option linter.unusedVariables false

theorem facts_fr {W : World} (h : laidMet Tryd.prog Rows.fnFractionsRow.laid W) (hsh : W.ShapedOpen Tryd.prog) : Tab10 W ∧ Errs W ∧ MaxL W :=
  ⟨Lib.tabIs_of_head (rest := [("strconv.ErrRange", Rows.laid_strconv_ErrRange), ("strconv.ErrSyntax", Rows.laid_strconv_ErrSyntax)]) gTab10r (by kernel_rfl) Tryd.underlying116 Tryd.underlying62 (by kernel_rfl) (by kernel_rfl) h.tail.tail,
    ⟨sentS h.tail.tail.tail.tail, sentR h.tail.tail.tail⟩, Tryd.laysM145.s1_3 W hsh⟩
/-- Two fractions handed back with true. -/
def FrR (b : Bool) (n d : Int) (w : World) (e : Ending) (w' : World) : Prop := e = .returned (.tuple #[.agg #[.int .i64 n, .int .i64 d], .bool b]) ∧ Below w.heap.size w w'
/-- All that the law's calls hand back, in letters. -/
structure FrAll (n d m e : Int) (p1 q1 pp pq dn dd p3 q3 t u c5 : Int) (z8 : Bool) (c d8 : Int) (tx : ByteArray) : Prop where
  add : ∀ w, Calls Tryd.prog 6 #[.agg #[.int .i64 n, .int .i64 d], .agg #[.int .i64 m, .int .i64 e]] w (FrR true p1 q1 w)
  back : ∀ w, Calls Tryd.prog 7 #[.agg #[.int .i64 p1, .int .i64 q1], .agg #[.int .i64 m, .int .i64 e]] w (FrR true n d w)
  mul : ∀ w, Calls Tryd.prog 8 #[.agg #[.int .i64 n, .int .i64 d], .agg #[.int .i64 m, .int .i64 e]] w (FrR true pp pq w)
  diff : ∀ w, Calls Tryd.prog 7 #[.agg #[.int .i64 n, .int .i64 d], .agg #[.int .i64 m, .int .i64 e]] w (FrR true dn dd w)
  cmp : ∀ w, Calls Tryd.prog 9 #[.agg #[.int .i64 n, .int .i64 d], .agg #[.int .i64 m, .int .i64 e]] w fun r w' => r = .returned (.tuple #[.int .i64 c5, .bool true]) ∧ Below w.heap.size w w'
  text : ∀ w, Tab10 w → Calls Tryd.prog 10 #[.agg #[.int .i64 n, .int .i64 d]] w fun r w' => r = .returned (.tuple #[.string tx, .bool true]) ∧ Below w.heap.size w w'
  read : ∀ w, Tab10 w → Errs w → MaxL w → Calls Tryd.prog 11 #[.string tx] w (FrR true n d w)
  valid : ∀ w, Calls Tryd.prog 12 #[.agg #[.int .i64 pp, .int .i64 pq]] w fun r w' => r = .returned (.bool true) ∧ Below w.heap.size w w'
  div : ∀ w, Calls Tryd.prog 13 #[.agg #[.int .i64 pp, .int .i64 pq], .agg #[.int .i64 m, .int .i64 e]] w (FrR z8 c d8 w)
  sum : ∀ w a cp, HasF w a [(n, d), (m, e), (n, d)] → Calls Tryd.prog 14 #[.slice a 3 cp] w (FrR true p3 q3 w)
  twice : ∀ w, Calls Tryd.prog 8 #[.agg #[.int .i64 n, .int .i64 d], .agg #[.int .i64 2, .int .i64 1]] w (FrR true t u w)
  other : ∀ w, Calls Tryd.prog 6 #[.agg #[.int .i64 t, .int .i64 u], .agg #[.int .i64 m, .int .i64 e]] w (FrR true p3 q3 w)
  made : ∀ w, Calls Tryd.prog 15 #[.int .i64 (n * 6), .int .i64 (d * 6)] w (FrR true n d w)
  neg : decide (c5 < 0) = decide (dn < 0)
  zero : (c5 == 0) = (dn == 0)
  z : z8 = (m != 0)
  same : z8 = true → n = c ∧ d = d8
theorem sgn_neg (N : Int) : sgn N < 0 ↔ N < 0 := by unfold sgn; split <;> (try split) <;> omega
theorem sgn_zero (N : Int) : sgn N = 0 ↔ N = 0 := by unfold sgn; split <;> (try split) <;> omega
theorem absI_bd {x M : Int} (h : -M ≤ x ∧ x ≤ M) : absI x ≤ M := by unfold absI; omega
theorem ft_size {n d : Int} (hv : vfB n d = true) : (ftS n d).size ≤ 1048576 := by
  obtain ⟨v1, v2, _⟩ := vfB_true hv
  have hL : ∀ x : Int, -1000000000000000000 ≤ x → x ≤ 1000000000000000000 → (decS x).size ≤ 21 := fun x h0 h1 => decS_size x (by omega) (by omega)
  unfold ftS
  split
  · have := hL n (by omega) (by omega); omega
  · rw [ByteArray.size_append, ByteArray.size_append]
    have := hL n (by omega) (by omega)
    have := hL d (by omega) (by omega)
    have e : (⟨#[47]⟩ : ByteArray).size = 1 := rfl
    omega
theorem prod_bd {a b A B : Int} (ha : -A ≤ a ∧ a ≤ A) (hb : -B ≤ b ∧ b ≤ B) (hA : 0 ≤ A) : -(A * B) ≤ a * b ∧ a * b ≤ A * B := by
  have h : (a * b).natAbs ≤ (A * B).natAbs := by
    rw [Int.natAbs_mul, Int.natAbs_mul]
    exact Nat.mul_le_mul (by omega) (by omega)
  have h2 : 0 ≤ A * B := Int.mul_nonneg hA (by omega)
  omega
theorem fr_all {n d m e : Int} (h1 : vfB n d = true) (h2 : vfB m e = true) (bn : -60000000 ≤ n ∧ n ≤ 60000000) (bd : 1 ≤ d ∧ d ≤ 40) (bm : -60000000 ≤ m ∧ m ≤ 60000000) (be : 1 ≤ e ∧ e ≤ 40) :
    ∃ p1 q1 pp pq dn dd p3 q3 t u c5 z8 c d8 tx, FrAll n d m e p1 q1 pp pq dn dd p3 q3 t u c5 z8 c d8 tx := by
  have d0 : 0 < d := by omega
  have e0 : 0 < e := by omega
  have hde : 0 < d * e := Int.mul_pos d0 e0
  have bde := prod_bd (A := 40) (B := 40) (show -40 ≤ d ∧ d ≤ 40 by omega) (show -40 ≤ e ∧ e ≤ 40 by omega) (by omega)
  have bne := prod_bd (A := 60000000) (B := 40) bn (show -40 ≤ e ∧ e ≤ 40 by omega) (by omega)
  have bmd := prod_bd (A := 60000000) (B := 40) bm (show -40 ≤ d ∧ d ≤ 40 by omega) (by omega)
  have bnm := prod_bd (A := 60000000) (B := 60000000) bn bm (by omega)
  obtain ⟨p1, q1, kv1, ke1, kq1, _, _, a1, a2, a3⟩ := cm_ex (N := n * e + m * d) h1 h2 hde (by omega) (absI_bd (M := 1000000000000000000) (by omega))
  obtain ⟨b1, b2, b3⟩ := cm_is (N := p1 * e - m * q1) (D := q1 * e) kv1 h2 h1 (Int.mul_pos kq1 e0) (back_law d0 e0 ke1)
  obtain ⟨pp, pq, kvp, kep, kqp, _, _, c1, c2, c3⟩ := cm_ex (N := n * m) h1 h2 hde (by omega) (absI_bd (M := 1000000000000000000) (by omega))
  obtain ⟨dn, dd, kvd, ked, kqd, _, _, f1, f2, f3⟩ := cm_ex (N := n * e - m * d) h1 h2 hde (by omega) (absI_bd (M := 1000000000000000000) (by omega))
  obtain ⟨sg1, sg2⟩ := same_sign hde kqd ked
  have hE : 2 * n * e = 2 * (n * e) := Int.mul_assoc ..
  obtain ⟨p3, q3, kv3, ke3, kq3, _, _, _, _, _⟩ := cm_ex (N := 2 * n * e + m * d) h1 h2 hde (by omega) (absI_bd (M := 1000000000000000000) (by omega))
  have hvt : vfB 2 1 = true := by decide
  obtain ⟨t, u, kvt, ket, kqt, _, _, g1, g2, g3⟩ := cm_ex (N := n * 2) (D := d * 1) h1 hvt (by omega) (by omega) (absI_bd (M := 1000000000000000000) (by omega))
  obtain ⟨i1, i2, i3⟩ := cm_is (N := t * e + m * u) (D := u * e) kvt h2 kv3 (Int.mul_pos kqt e0) (twice_law d0 ket ke3)
  obtain ⟨j1, j2⟩ := made_six h1
  have hmf : mfB (n * 6) (d * 6) = true := by
    unfold mfB
    rw [show (d * 6 == 0) = false from beq_eq_false_iff_ne.2 (by omega), inR_mk (by omega) (by omega), inR_mk (by omega) (by omega)]
    rfl
  have hcp : cpB n d m e = true := by unfold cpB; rw [h1, h2]; rfl
  have hcv : cpV n d m e = sgn (n * e - m * d) := by unfold cpV; rw [if_pos hcp]
  have hft : ftR n d = ftS n d := by unfold ftR; rw [if_pos h1]
  obtain ⟨r1, r2, r3⟩ := fr_some (s := ftS n d) ⟨h1, rfl⟩
  have hsz := ft_size h1
  have hs3 := sum_three h1 h2 kv1 kv3 ke1 ke3
  have hneg : decide (sgn (n * e - m * d) < 0) = decide (dn < 0) := by rw [decide_eq_decide, sgn_neg, sg1]
  have hzero : (sgn (n * e - m * d) == 0) = (dn == 0) := by rw [Bool.eq_iff_iff, beq_iff_eq, beq_iff_eq, sgn_zero, sg2]
  refine ⟨p1, q1, pp, pq, dn, dd, p3, q3, t, u, sgn (n * e - m * d), dvB pp pq m e, dvP pp pq m e, dvQ pp pq m e, ftS n d, ?_⟩
  refine { add := fun w => ?_, back := fun w => ?_, mul := fun w => ?_, diff := fun w => ?_, cmp := fun w => ?_, text := fun w h => ?_, read := fun w h a b => ?_, valid := fun w => ?_, div := fun w => ?_, sum := fun w a cp h => ?_, twice := fun w => ?_, other := fun w => ?_, made := fun w => ?_, neg := hneg, zero := hzero, z := ?_, same := fun h => ?_ }
  · have := AddFractions_any n d m e w
    rw [a1, a2, a3] at this; exact this
  · have := SubFractions_any p1 q1 m e w
    rw [b1, b2, b3] at this; exact this
  · have := MulFractions_any n d m e w
    rw [c1, c2, c3] at this; exact this
  · have := SubFractions_any n d m e w
    rw [f1, f2, f3] at this; exact this
  · have := CompareFractions_any n d m e w
    rw [hcp, hcv] at this; exact this
  · have := FractionText_any n d w h
    rw [hft, h1] at this; exact this
  · have := ReadFraction_any (ftS n d) w hsz h a b
    rw [r1, r2, r3] at this; exact this
  · have := ValidFraction_any pp pq w
    rw [kvp] at this; exact this
  · exact DivFractions_any pp pq m e w
  · have := SumFractions_any [(n, d), (m, e), (n, d)] a cp w h (by simp)
    rw [hs3] at this; exact this
  · have := MulFractions_any n d 2 1 w
    rw [g1, g2, g3] at this; exact this
  · have := AddFractions_any t u m e w
    rw [i1, i2, i3] at this; exact this
  · have := MakeFraction_any (n * 6) (d * 6) w
    rw [hmf, show mfN (n * 6) (d * 6) = n by unfold mfN; rw [if_pos hmf, j1], show mfD (n * 6) (d * 6) = d by unfold mfD; rw [if_pos hmf, j2]] at this
    exact this
  · by_cases hm : m = 0
    · subst hm; rfl
    · rw [(div_back h1 h2 kvp hm kep).1]
      exact (bne_iff_ne.2 hm).symm
  · by_cases hm : m = 0
    · subst hm; cases h
    · exact ⟨(div_back h1 h2 kvp hm kep).2.1.symm, (div_back h1 h2 kvp hm kep).2.2.symm⟩
theorem HasF.lit3 (n d m e p q : Int) (w : World) (g : Nat) (hg : w.heap.size = g) : HasF (w.alloc (.cells #[.int .i64 n, .int .i64 d, .int .i64 m, .int .i64 e, .int .i64 p, .int .i64 q] 25)) (some ⟨g, 0, none⟩) [(n, d), (m, e), (p, q)] := fun _ => by
  subst hg
  refine ⟨w.heap.size, rfl, by simp, fun j hj => ?_⟩
  have B := Blk.new w #[.int .i64 n, .int .i64 d, .int .i64 m, .int .i64 e, .int .i64 p, .int .i64 q] 25
  match j, hj with
  | 0, _ => exact ⟨B.cell 0 rfl, B.cell 1 rfl⟩
  | 1, _ => exact ⟨B.cell 2 rfl, B.cell 3 rfl⟩
  | 2, _ => exact ⟨B.cell 4 rfl, B.cell 5 rfl⟩
  | j + 3, hj => simp at hj; omega
set_option maxRecDepth 100000 in
set_option maxHeartbeats 4000000 in
theorem FnFractions_walk (a0 : Option Addr) (l0 c0 : Nat) (z0 : List Int) (a1 : Option Addr) (l1 c1 : Nat) (z1 : List Int) (w : World) (h0 : IsRow .u8 w a0 l0 c0 z0) (h1 : IsRow .u8 w a1 l1 c1 z1) (hf : Tab10 w ∧ Errs w ∧ MaxL w) :
    Calls Tryd.prog 3 #[.slice a0 l0 c0, .slice a1 l1 c1] w fun e w' => e = .returned (.bool true) ∧ Below w.heap.size w w' := by
  have m0 := h0.len_le.1
  have m1 := h1.len_le.1
  have H0 := Lib.hid h0
  have H1 := Lib.hid h1
  have HF := Lib.hid hf
  clear h0 h1 hf
  cases hL : long2 l0 l1 with
  | true =>
    go_enter Tryd.func3, Tryd.ntmps3
    go_wp2_with (go_at_call 4; refine (b10Long_of m0 m1 hL).mono ?_; rintro e w' ⟨rfl, rfl⟩)
    go_ret
    exact ⟨rfl, bw_refl _⟩
  | false =>
    go_enter Tryd.func3, Tryd.ntmps3
    go_wp2_with fail
    refine (b10Long_of m0 m1 hL).mono ?_
    rintro e w' ⟨rfl, rfl⟩
    clear hL m0 m1
    go_wp2_with fail
    refine (B10Fraction_any a0 l0 c0 z0 _ H0.out).mono ?_
    rintro e w1 ⟨x, y, rfl, hx, hy, hb1⟩
    obtain ⟨v1, bn, bd⟩ := drawn_frac hx hy
    obtain ⟨n, hn⟩ : ∃ n, fmN x y = n := ⟨_, rfl⟩
    obtain ⟨d, hd⟩ : ∃ d, fmD x y = d := ⟨_, rfl⟩
    rw [hn, hd] at v1
    rw [hn] at bn ⊢
    rw [hd] at bd ⊢
    clear hn hd hx hy
    have V1 := Lib.hid v1
    have BN := Lib.hid bn
    have BD := Lib.hid bd
    have D1 := Lib.hid (bw_alloc hb1 (.cells #[.int .i64 n, .int .i64 d] 25))
    have KA := Lib.hid (Blk.new w1 #[.int .i64 n, .int .i64 d] 25)
    clear v1 bn bd hb1
    go_wp2_with fail
    refine (B10Fraction_any a1 l1 c1 z1 _ (H1.out.below D1.out)).mono ?_
    rintro e w2 ⟨x', y', rfl, hx, hy, hb2⟩
    obtain ⟨v2, bm, be⟩ := drawn_frac hx hy
    obtain ⟨m, hm⟩ : ∃ m, fmN x' y' = m := ⟨_, rfl⟩
    obtain ⟨d', he⟩ : ∃ d', fmD x' y' = d' := ⟨_, rfl⟩
    rw [hm, he] at v2
    rw [hm] at bm ⊢
    rw [he] at be ⊢
    clear hm he hx hy
    obtain ⟨p1, q1, pp, pq, dn, dd, p3, q3, t, u, c5, z8, cn, d8, tx, hall⟩ := fr_all V1.out v2 BN.out BD.out bm be
    have FA := Lib.hid hall
    have D2 := Lib.hid (bw_alloc (bw_call D1.out hb2) (.cells #[.int .i64 m, .int .i64 d'] 25))
    have KB := Lib.hid (Blk.new w2 #[.int .i64 m, .int .i64 d'] 25)
    have KA2 := Lib.hid ((KA.out.later hb2).alloc (.cells #[.int .i64 m, .int .i64 d'] 25))
    have ab : ¬ w1.heap.size = w2.heap.size := by have := (KA.out.later hb2).lt; omega
    have ba : ¬ w2.heap.size = w1.heap.size := by omega
    have BM := Lib.hid bm
    have BE := Lib.hid be
    have ca0 := KA2.out.cell 0 rfl
    have ca1 := KA2.out.cell 1 rfl
    have cb0 := KB.out.cell 0 rfl
    have cb1 := KB.out.cell 1 rfl
    clear v2 bm be hall hb2 D1 KA
    go_wp2_with fail
    --CHAIN
    refine (FA.out.add _).mono ?_
    rintro e w3 ⟨rfl, hb3⟩
    clear ca0 ca1 cb0 cb1 ab ba
    have KA3 := Lib.hid (KA2.out.later hb3)
    have KB3 := Lib.hid (KB.out.later hb3)
    have E3 := Lib.hid (bw_call D2.out hb3)
    have vB0 := KB3.out.cell 0 rfl
    have vB1 := KB3.out.cell 1 rfl
    have zB := KB3.out.lt
    have xB : ¬ w2.heap.size = w3.heap.size := by omega
    have yB : ¬ w3.heap.size = w2.heap.size := fun q => xB q.symm
    clear hb3
    have KKA3 := Lib.hid (KA3.out.alloc (.cells #[.int .i64 p1, .int .i64 q1] 25))
    have KKB3 := Lib.hid (KB3.out.alloc (.cells #[.int .i64 p1, .int .i64 q1] 25))
    have KKS3 := Lib.hid (Blk.new w3 #[.int .i64 p1, .int .i64 q1] 25)
    have D3 := Lib.hid (bw_alloc E3.out (.cells #[.int .i64 p1, .int .i64 q1] 25))
    go_wp2_with fail
    refine (FA.out.back _).mono ?_
    rintro e w4 ⟨rfl, hb4⟩
    clear vB0 vB1 xB yB zB
    have KA4 := Lib.hid (KKA3.out.later hb4)
    have KB4 := Lib.hid (KKB3.out.later hb4)
    have KS4 := Lib.hid (KKS3.out.later hb4)
    have E4 := Lib.hid (bw_call D3.out hb4)
    have vA0 := KA4.out.cell 0 rfl
    have vA1 := KA4.out.cell 1 rfl
    have zA := KA4.out.lt
    have xA : ¬ w1.heap.size = w4.heap.size := by omega
    have yA : ¬ w4.heap.size = w1.heap.size := fun q => xA q.symm
    have vB0 := KB4.out.cell 0 rfl
    have vB1 := KB4.out.cell 1 rfl
    have zB := KB4.out.lt
    have xB : ¬ w2.heap.size = w4.heap.size := by omega
    have yB : ¬ w4.heap.size = w2.heap.size := fun q => xB q.symm
    clear hb4
    have KKA4 := Lib.hid (KA4.out.alloc (.cells #[.int .i64 n, .int .i64 d] 25))
    have KKB4 := Lib.hid (KB4.out.alloc (.cells #[.int .i64 n, .int .i64 d] 25))
    have KKS4 := Lib.hid (KS4.out.alloc (.cells #[.int .i64 n, .int .i64 d] 25))
    have KKK4 := Lib.hid (Blk.new w4 #[.int .i64 n, .int .i64 d] 25)
    have D4 := Lib.hid (bw_alloc E4.out (.cells #[.int .i64 n, .int .i64 d] 25))
    go_wp2_with fail
    refine (FA.out.mul _).mono ?_
    rintro e w5 ⟨rfl, hb5⟩
    clear vA0 vA1 xA yA zA vB0 vB1 xB yB zB
    have KA5 := Lib.hid (KKA4.out.later hb5)
    have KB5 := Lib.hid (KKB4.out.later hb5)
    have KK5 := Lib.hid (KKK4.out.later hb5)
    have E5 := Lib.hid (bw_call D4.out hb5)
    have vA0 := KA5.out.cell 0 rfl
    have vA1 := KA5.out.cell 1 rfl
    have zA := KA5.out.lt
    have xA : ¬ w1.heap.size = w5.heap.size := by omega
    have yA : ¬ w5.heap.size = w1.heap.size := fun q => xA q.symm
    have vB0 := KB5.out.cell 0 rfl
    have vB1 := KB5.out.cell 1 rfl
    have zB := KB5.out.lt
    have xB : ¬ w2.heap.size = w5.heap.size := by omega
    have yB : ¬ w5.heap.size = w2.heap.size := fun q => xB q.symm
    clear hb5
    have KKA5 := Lib.hid (KA5.out.alloc (.cells #[.int .i64 pp, .int .i64 pq] 25))
    have KKB5 := Lib.hid (KB5.out.alloc (.cells #[.int .i64 pp, .int .i64 pq] 25))
    have KKK5 := Lib.hid (KK5.out.alloc (.cells #[.int .i64 pp, .int .i64 pq] 25))
    have KKP5 := Lib.hid (Blk.new w5 #[.int .i64 pp, .int .i64 pq] 25)
    have D5 := Lib.hid (bw_alloc E5.out (.cells #[.int .i64 pp, .int .i64 pq] 25))
    go_wp2_with fail
    refine (FA.out.diff _).mono ?_
    rintro e w6 ⟨rfl, hb6⟩
    clear vA0 vA1 xA yA zA vB0 vB1 xB yB zB
    have KA6 := Lib.hid (KKA5.out.later hb6)
    have KB6 := Lib.hid (KKB5.out.later hb6)
    have KK6 := Lib.hid (KKK5.out.later hb6)
    have KP6 := Lib.hid (KKP5.out.later hb6)
    have E6 := Lib.hid (bw_call D5.out hb6)
    have vA0 := KA6.out.cell 0 rfl
    have vA1 := KA6.out.cell 1 rfl
    have zA := KA6.out.lt
    have xA : ¬ w1.heap.size = w6.heap.size := by omega
    have yA : ¬ w6.heap.size = w1.heap.size := fun q => xA q.symm
    have vB0 := KB6.out.cell 0 rfl
    have vB1 := KB6.out.cell 1 rfl
    have zB := KB6.out.lt
    have xB : ¬ w2.heap.size = w6.heap.size := by omega
    have yB : ¬ w6.heap.size = w2.heap.size := fun q => xB q.symm
    clear hb6
    have KKA6 := Lib.hid (KA6.out.alloc (.cells #[.int .i64 dn, .int .i64 dd] 25))
    have KKB6 := Lib.hid (KB6.out.alloc (.cells #[.int .i64 dn, .int .i64 dd] 25))
    have KKK6 := Lib.hid (KK6.out.alloc (.cells #[.int .i64 dn, .int .i64 dd] 25))
    have KKP6 := Lib.hid (KP6.out.alloc (.cells #[.int .i64 dn, .int .i64 dd] 25))
    have KKF6 := Lib.hid (Blk.new w6 #[.int .i64 dn, .int .i64 dd] 25)
    have D6 := Lib.hid (bw_alloc E6.out (.cells #[.int .i64 dn, .int .i64 dd] 25))
    go_wp2_with fail
    refine (FA.out.cmp _).mono ?_
    rintro e w7 ⟨rfl, hb7⟩
    clear vA0 vA1 xA yA zA vB0 vB1 xB yB zB
    have KA7 := Lib.hid (KKA6.out.later hb7)
    have KB7 := Lib.hid (KKB6.out.later hb7)
    have KK7 := Lib.hid (KKK6.out.later hb7)
    have KP7 := Lib.hid (KKP6.out.later hb7)
    have KF7 := Lib.hid (KKF6.out.later hb7)
    have E7 := Lib.hid (bw_call D6.out hb7)
    have vA0 := KA7.out.cell 0 rfl
    have vA1 := KA7.out.cell 1 rfl
    clear hb7
    go_wp2_with fail
    have HT7 := Lib.hid ((HF.out.1.later E7.out))
    refine (FA.out.text _ HT7.out).mono ?_
    rintro e w8 ⟨rfl, hb8⟩
    clear vA0 vA1
    have KA8 := Lib.hid (KA7.out.later hb8)
    have KB8 := Lib.hid (KB7.out.later hb8)
    have KK8 := Lib.hid (KK7.out.later hb8)
    have KP8 := Lib.hid (KP7.out.later hb8)
    have KF8 := Lib.hid (KF7.out.later hb8)
    have E8 := Lib.hid (bw_call E7.out hb8)
    clear hb8
    go_wp2_with fail
    have HT8 := Lib.hid (HF.out.1.later E8.out)
    have HE8 := Lib.hid (HF.out.2.1.later E8.out)
    have HM8 := Lib.hid (HF.out.2.2.later E8.out)
    refine (FA.out.read _ HT8.out HE8.out HM8.out).mono ?_
    rintro e w9 ⟨rfl, hb9⟩
    have KA9 := Lib.hid (KA8.out.later hb9)
    have KB9 := Lib.hid (KB8.out.later hb9)
    have KK9 := Lib.hid (KK8.out.later hb9)
    have KP9 := Lib.hid (KP8.out.later hb9)
    have KF9 := Lib.hid (KF8.out.later hb9)
    have E9 := Lib.hid (bw_call E8.out hb9)
    have vA0 := KA9.out.cell 0 rfl
    have vA1 := KA9.out.cell 1 rfl
    have zA := KA9.out.lt
    have xA : ¬ w1.heap.size = w9.heap.size := by omega
    have yA : ¬ w9.heap.size = w1.heap.size := fun q => xA q.symm
    have vK0 := KK9.out.cell 0 rfl
    have vK1 := KK9.out.cell 1 rfl
    have zK := KK9.out.lt
    have xK : ¬ w4.heap.size = w9.heap.size := by omega
    have yK : ¬ w9.heap.size = w4.heap.size := fun q => xK q.symm
    have vF0 := KF9.out.cell 0 rfl
    have vF1 := KF9.out.cell 1 rfl
    have zF := KF9.out.lt
    have xF : ¬ w6.heap.size = w9.heap.size := by omega
    have yF : ¬ w9.heap.size = w6.heap.size := fun q => xF q.symm
    have vP0 := KP9.out.cell 0 rfl
    have vP1 := KP9.out.cell 1 rfl
    have zP := KP9.out.lt
    have xP : ¬ w5.heap.size = w9.heap.size := by omega
    have yP : ¬ w9.heap.size = w5.heap.size := fun q => xP q.symm
    clear hb9
    have KKA9 := Lib.hid (KA9.out.alloc (.cells #[.int .i64 n, .int .i64 d] 25))
    have KKB9 := Lib.hid (KB9.out.alloc (.cells #[.int .i64 n, .int .i64 d] 25))
    have KKK9 := Lib.hid (KK9.out.alloc (.cells #[.int .i64 n, .int .i64 d] 25))
    have KKP9 := Lib.hid (KP9.out.alloc (.cells #[.int .i64 n, .int .i64 d] 25))
    have KKF9 := Lib.hid (KF9.out.alloc (.cells #[.int .i64 n, .int .i64 d] 25))
    have KKR9 := Lib.hid (Blk.new w9 #[.int .i64 n, .int .i64 d] 25)
    have D9 := Lib.hid (bw_alloc E9.out (.cells #[.int .i64 n, .int .i64 d] 25))
    have hneg := FA.out.neg
    have hzero := FA.out.zero
    obtain ⟨s, hs⟩ : ∃ s, decide (dn < 0) = s := ⟨_, rfl⟩
    obtain ⟨s0, hs0⟩ : ∃ s0, (dn == 0) = s0 := ⟨_, rfl⟩
    rw [hs] at hneg
    rw [hs0] at hzero
    go_wp2_with fail
    clear hneg hzero hs hs0
    refine (FA.out.valid _).mono ?_
    rintro e w10 ⟨rfl, hb10⟩
    clear vA0 vA1 xA yA zA vK0 vK1 xK yK zK vF0 vF1 xF yF zF vP0 vP1 xP yP zP
    have KA10 := Lib.hid (KKA9.out.later hb10)
    have KB10 := Lib.hid (KKB9.out.later hb10)
    have KP10 := Lib.hid (KKP9.out.later hb10)
    have E10 := Lib.hid (bw_call D9.out hb10)
    have vP0 := KP10.out.cell 0 rfl
    have vP1 := KP10.out.cell 1 rfl
    have vB0 := KB10.out.cell 0 rfl
    have vB1 := KB10.out.cell 1 rfl
    clear hb10
    go_wp2_with fail
    refine (FA.out.div _).mono ?_
    rintro e w11 ⟨rfl, hb11⟩
    clear vP0 vP1 vB0 vB1
    have KA11 := Lib.hid (KA10.out.later hb11)
    have KB11 := Lib.hid (KB10.out.later hb11)
    have KP11 := Lib.hid (KP10.out.later hb11)
    have E11 := Lib.hid (bw_call E10.out hb11)
    have vA0 := KA11.out.cell 0 rfl
    have vA1 := KA11.out.cell 1 rfl
    have zA := KA11.out.lt
    have xA : ¬ w1.heap.size = w11.heap.size := by omega
    have yA : ¬ w11.heap.size = w1.heap.size := fun q => xA q.symm
    have vB0 := KB11.out.cell 0 rfl
    have vB1 := KB11.out.cell 1 rfl
    have zB := KB11.out.lt
    have xB : ¬ w2.heap.size = w11.heap.size := by omega
    have yB : ¬ w11.heap.size = w2.heap.size := fun q => xB q.symm
    clear hb11
    have KKA11 := Lib.hid (KA11.out.alloc (.cells #[.int .i64 cn, .int .i64 d8] 25))
    have KKB11 := Lib.hid (KB11.out.alloc (.cells #[.int .i64 cn, .int .i64 d8] 25))
    have KKP11 := Lib.hid (KP11.out.alloc (.cells #[.int .i64 cn, .int .i64 d8] 25))
    have KKC11 := Lib.hid (Blk.new w11 #[.int .i64 cn, .int .i64 d8] 25)
    have D11 := Lib.hid (bw_alloc E11.out (.cells #[.int .i64 cn, .int .i64 d8] 25))
    have hzz := FA.out.z
    have hsame := FA.out.same
    cases z8 with
    | true =>
      have hm : (m != 0) = true := hzz.symm
      obtain ⟨rfl, rfl⟩ := hsame rfl
      clear hzz hsame
      go_wp2_with fail
      clear hm
      have KLA := Lib.hid (KKA11.out.alloc (.cells #[.int .i64 n, .int .i64 d, .int .i64 m, .int .i64 d', .int .i64 n, .int .i64 d] 25))
      have KLB := Lib.hid (KKB11.out.alloc (.cells #[.int .i64 n, .int .i64 d, .int .i64 m, .int .i64 d', .int .i64 n, .int .i64 d] 25))
      have DL := Lib.hid (bw_alloc D11.out (.cells #[.int .i64 n, .int .i64 d, .int .i64 m, .int .i64 d', .int .i64 n, .int .i64 d] 25))
      refine (FA.out.sum _ _ _ (HasF.lit3 _ _ _ _ _ _ _ _ (by simp))).mono ?_
      rintro e w12 ⟨rfl, hb12⟩
      clear vA0 vA1 xA yA zA vB0 vB1 xB yB zB
      have KA12 := Lib.hid (KLA.out.later hb12)
      have KB12 := Lib.hid (KLB.out.later hb12)
      have E12 := Lib.hid (bw_call DL.out hb12)
      have vA0 := KA12.out.cell 0 rfl
      have vA1 := KA12.out.cell 1 rfl
      have zA := KA12.out.lt
      have xA : ¬ w1.heap.size = w12.heap.size := by omega
      have yA : ¬ w12.heap.size = w1.heap.size := fun q => xA q.symm
      have vB0 := KB12.out.cell 0 rfl
      have vB1 := KB12.out.cell 1 rfl
      have zB := KB12.out.lt
      have xB : ¬ w2.heap.size = w12.heap.size := by omega
      have yB : ¬ w12.heap.size = w2.heap.size := fun q => xB q.symm
      clear hb12
      have KKA12 := Lib.hid (KA12.out.alloc (.cells #[.int .i64 p3, .int .i64 q3] 25))
      have KKB12 := Lib.hid (KB12.out.alloc (.cells #[.int .i64 p3, .int .i64 q3] 25))
      have KKG12 := Lib.hid (Blk.new w12 #[.int .i64 p3, .int .i64 q3] 25)
      have D12 := Lib.hid (bw_alloc E12.out (.cells #[.int .i64 p3, .int .i64 q3] 25))
      go_wp2_with fail
      refine (FA.out.twice _).mono ?_
      rintro e w13 ⟨rfl, hb13⟩
      clear vA0 vA1 xA yA zA vB0 vB1 xB yB zB
      have KA13 := Lib.hid (KKA12.out.later hb13)
      have KB13 := Lib.hid (KKB12.out.later hb13)
      have KG13 := Lib.hid (KKG12.out.later hb13)
      have E13 := Lib.hid (bw_call D12.out hb13)
      have vA0 := KA13.out.cell 0 rfl
      have vA1 := KA13.out.cell 1 rfl
      have zA := KA13.out.lt
      have xA : ¬ w1.heap.size = w13.heap.size := by omega
      have yA : ¬ w13.heap.size = w1.heap.size := fun q => xA q.symm
      have vB0 := KB13.out.cell 0 rfl
      have vB1 := KB13.out.cell 1 rfl
      have zB := KB13.out.lt
      have xB : ¬ w2.heap.size = w13.heap.size := by omega
      have yB : ¬ w13.heap.size = w2.heap.size := fun q => xB q.symm
      clear hb13
      have KKA13 := Lib.hid (KA13.out.alloc (.cells #[.int .i64 t, .int .i64 u] 25))
      have KKB13 := Lib.hid (KB13.out.alloc (.cells #[.int .i64 t, .int .i64 u] 25))
      have KKG13 := Lib.hid (KG13.out.alloc (.cells #[.int .i64 t, .int .i64 u] 25))
      have KKU13 := Lib.hid (Blk.new w13 #[.int .i64 t, .int .i64 u] 25)
      have D13 := Lib.hid (bw_alloc E13.out (.cells #[.int .i64 t, .int .i64 u] 25))
      go_wp2_with fail
      refine (FA.out.other _).mono ?_
      rintro e w14 ⟨rfl, hb14⟩
      clear vA0 vA1 xA yA zA vB0 vB1 xB yB zB
      have KA14 := Lib.hid (KKA13.out.later hb14)
      have KB14 := Lib.hid (KKB13.out.later hb14)
      have KG14 := Lib.hid (KKG13.out.later hb14)
      have KU14 := Lib.hid (KKU13.out.later hb14)
      have E14 := Lib.hid (bw_call D13.out hb14)
      have vA0 := KA14.out.cell 0 rfl
      have vA1 := KA14.out.cell 1 rfl
      have zA := KA14.out.lt
      have xA : ¬ w1.heap.size = w14.heap.size := by omega
      have yA : ¬ w14.heap.size = w1.heap.size := fun q => xA q.symm
      clear hb14
      have KKA14 := Lib.hid (KA14.out.alloc (.cells #[.int .i64 p3, .int .i64 q3] 25))
      have KKB14 := Lib.hid (KB14.out.alloc (.cells #[.int .i64 p3, .int .i64 q3] 25))
      have KKG14 := Lib.hid (KG14.out.alloc (.cells #[.int .i64 p3, .int .i64 q3] 25))
      have KKU14 := Lib.hid (KU14.out.alloc (.cells #[.int .i64 p3, .int .i64 q3] 25))
      have KKO14 := Lib.hid (Blk.new w14 #[.int .i64 p3, .int .i64 q3] 25)
      have D14 := Lib.hid (bw_alloc E14.out (.cells #[.int .i64 p3, .int .i64 q3] 25))
      have e1 : IntKind.i64.wrap (n * 6) = n * 6 := by have := BN.out; rw [IntKind.wrap_i64]; omega
      have e2 : IntKind.i64.wrap (d * 6) = d * 6 := by have := BD.out; rw [IntKind.wrap_i64]; omega
      go_wp2_with fail
      clear e1 e2
      refine (FA.out.made _).mono ?_
      rintro e w15 ⟨rfl, hb15⟩
      clear vA0 vA1 xA yA zA
      have KA15 := Lib.hid (KKA14.out.later hb15)
      have KG15 := Lib.hid (KKG14.out.later hb15)
      have KO15 := Lib.hid (KKO14.out.later hb15)
      have E15 := Lib.hid (bw_call D14.out hb15)
      have vA0 := KA15.out.cell 0 rfl
      have vA1 := KA15.out.cell 1 rfl
      have zA := KA15.out.lt
      have xA : ¬ w1.heap.size = w15.heap.size := by omega
      have yA : ¬ w15.heap.size = w1.heap.size := fun q => xA q.symm
      have vG0 := KG15.out.cell 0 rfl
      have vG1 := KG15.out.cell 1 rfl
      have zG := KG15.out.lt
      have xG : ¬ w12.heap.size = w15.heap.size := by omega
      have yG : ¬ w15.heap.size = w12.heap.size := fun q => xG q.symm
      have vO0 := KO15.out.cell 0 rfl
      have vO1 := KO15.out.cell 1 rfl
      have zO := KO15.out.lt
      have xO : ¬ w14.heap.size = w15.heap.size := by omega
      have yO : ¬ w15.heap.size = w14.heap.size := fun q => xO q.symm
      clear hb15
      have KKA15 := Lib.hid (KA15.out.alloc (.cells #[.int .i64 n, .int .i64 d] 25))
      have KKG15 := Lib.hid (KG15.out.alloc (.cells #[.int .i64 n, .int .i64 d] 25))
      have KKO15 := Lib.hid (KO15.out.alloc (.cells #[.int .i64 n, .int .i64 d] 25))
      have KKM15 := Lib.hid (Blk.new w15 #[.int .i64 n, .int .i64 d] 25)
      have D15 := Lib.hid (bw_alloc E15.out (.cells #[.int .i64 n, .int .i64 d] 25))
      go_wp2
      go_ret
      exact ⟨rfl, D15.out⟩
    | false =>
      have hm : (m != 0) = false := hzz.symm
      clear hzz hsame
      go_wp2_with fail
      clear hm
      have KLA := Lib.hid (KKA11.out.alloc (.cells #[.int .i64 n, .int .i64 d, .int .i64 m, .int .i64 d', .int .i64 n, .int .i64 d] 25))
      have KLB := Lib.hid (KKB11.out.alloc (.cells #[.int .i64 n, .int .i64 d, .int .i64 m, .int .i64 d', .int .i64 n, .int .i64 d] 25))
      have DL := Lib.hid (bw_alloc D11.out (.cells #[.int .i64 n, .int .i64 d, .int .i64 m, .int .i64 d', .int .i64 n, .int .i64 d] 25))
      refine (FA.out.sum _ _ _ (HasF.lit3 _ _ _ _ _ _ _ _ (by simp))).mono ?_
      rintro e w12 ⟨rfl, hb12⟩
      clear vA0 vA1 xA yA zA vB0 vB1 xB yB zB
      have KA12 := Lib.hid (KLA.out.later hb12)
      have KB12 := Lib.hid (KLB.out.later hb12)
      have E12 := Lib.hid (bw_call DL.out hb12)
      have vA0 := KA12.out.cell 0 rfl
      have vA1 := KA12.out.cell 1 rfl
      have zA := KA12.out.lt
      have xA : ¬ w1.heap.size = w12.heap.size := by omega
      have yA : ¬ w12.heap.size = w1.heap.size := fun q => xA q.symm
      have vB0 := KB12.out.cell 0 rfl
      have vB1 := KB12.out.cell 1 rfl
      have zB := KB12.out.lt
      have xB : ¬ w2.heap.size = w12.heap.size := by omega
      have yB : ¬ w12.heap.size = w2.heap.size := fun q => xB q.symm
      clear hb12
      have KKA12 := Lib.hid (KA12.out.alloc (.cells #[.int .i64 p3, .int .i64 q3] 25))
      have KKB12 := Lib.hid (KB12.out.alloc (.cells #[.int .i64 p3, .int .i64 q3] 25))
      have KKG12 := Lib.hid (Blk.new w12 #[.int .i64 p3, .int .i64 q3] 25)
      have D12 := Lib.hid (bw_alloc E12.out (.cells #[.int .i64 p3, .int .i64 q3] 25))
      go_wp2_with fail
      refine (FA.out.twice _).mono ?_
      rintro e w13 ⟨rfl, hb13⟩
      clear vA0 vA1 xA yA zA vB0 vB1 xB yB zB
      have KA13 := Lib.hid (KKA12.out.later hb13)
      have KB13 := Lib.hid (KKB12.out.later hb13)
      have KG13 := Lib.hid (KKG12.out.later hb13)
      have E13 := Lib.hid (bw_call D12.out hb13)
      have vA0 := KA13.out.cell 0 rfl
      have vA1 := KA13.out.cell 1 rfl
      have zA := KA13.out.lt
      have xA : ¬ w1.heap.size = w13.heap.size := by omega
      have yA : ¬ w13.heap.size = w1.heap.size := fun q => xA q.symm
      have vB0 := KB13.out.cell 0 rfl
      have vB1 := KB13.out.cell 1 rfl
      have zB := KB13.out.lt
      have xB : ¬ w2.heap.size = w13.heap.size := by omega
      have yB : ¬ w13.heap.size = w2.heap.size := fun q => xB q.symm
      clear hb13
      have KKA13 := Lib.hid (KA13.out.alloc (.cells #[.int .i64 t, .int .i64 u] 25))
      have KKB13 := Lib.hid (KB13.out.alloc (.cells #[.int .i64 t, .int .i64 u] 25))
      have KKG13 := Lib.hid (KG13.out.alloc (.cells #[.int .i64 t, .int .i64 u] 25))
      have KKU13 := Lib.hid (Blk.new w13 #[.int .i64 t, .int .i64 u] 25)
      have D13 := Lib.hid (bw_alloc E13.out (.cells #[.int .i64 t, .int .i64 u] 25))
      go_wp2_with fail
      refine (FA.out.other _).mono ?_
      rintro e w14 ⟨rfl, hb14⟩
      clear vA0 vA1 xA yA zA vB0 vB1 xB yB zB
      have KA14 := Lib.hid (KKA13.out.later hb14)
      have KB14 := Lib.hid (KKB13.out.later hb14)
      have KG14 := Lib.hid (KKG13.out.later hb14)
      have KU14 := Lib.hid (KKU13.out.later hb14)
      have E14 := Lib.hid (bw_call D13.out hb14)
      have vA0 := KA14.out.cell 0 rfl
      have vA1 := KA14.out.cell 1 rfl
      have zA := KA14.out.lt
      have xA : ¬ w1.heap.size = w14.heap.size := by omega
      have yA : ¬ w14.heap.size = w1.heap.size := fun q => xA q.symm
      clear hb14
      have KKA14 := Lib.hid (KA14.out.alloc (.cells #[.int .i64 p3, .int .i64 q3] 25))
      have KKB14 := Lib.hid (KB14.out.alloc (.cells #[.int .i64 p3, .int .i64 q3] 25))
      have KKG14 := Lib.hid (KG14.out.alloc (.cells #[.int .i64 p3, .int .i64 q3] 25))
      have KKU14 := Lib.hid (KU14.out.alloc (.cells #[.int .i64 p3, .int .i64 q3] 25))
      have KKO14 := Lib.hid (Blk.new w14 #[.int .i64 p3, .int .i64 q3] 25)
      have D14 := Lib.hid (bw_alloc E14.out (.cells #[.int .i64 p3, .int .i64 q3] 25))
      have e1 : IntKind.i64.wrap (n * 6) = n * 6 := by have := BN.out; rw [IntKind.wrap_i64]; omega
      have e2 : IntKind.i64.wrap (d * 6) = d * 6 := by have := BD.out; rw [IntKind.wrap_i64]; omega
      go_wp2_with fail
      clear e1 e2
      refine (FA.out.made _).mono ?_
      rintro e w15 ⟨rfl, hb15⟩
      clear vA0 vA1 xA yA zA
      have KA15 := Lib.hid (KKA14.out.later hb15)
      have KG15 := Lib.hid (KKG14.out.later hb15)
      have KO15 := Lib.hid (KKO14.out.later hb15)
      have E15 := Lib.hid (bw_call D14.out hb15)
      have vA0 := KA15.out.cell 0 rfl
      have vA1 := KA15.out.cell 1 rfl
      have zA := KA15.out.lt
      have xA : ¬ w1.heap.size = w15.heap.size := by omega
      have yA : ¬ w15.heap.size = w1.heap.size := fun q => xA q.symm
      have vG0 := KG15.out.cell 0 rfl
      have vG1 := KG15.out.cell 1 rfl
      have zG := KG15.out.lt
      have xG : ¬ w12.heap.size = w15.heap.size := by omega
      have yG : ¬ w15.heap.size = w12.heap.size := fun q => xG q.symm
      have vO0 := KO15.out.cell 0 rfl
      have vO1 := KO15.out.cell 1 rfl
      have zO := KO15.out.lt
      have xO : ¬ w14.heap.size = w15.heap.size := by omega
      have yO : ¬ w15.heap.size = w14.heap.size := fun q => xO q.symm
      clear hb15
      have KKA15 := Lib.hid (KA15.out.alloc (.cells #[.int .i64 n, .int .i64 d] 25))
      have KKG15 := Lib.hid (KG15.out.alloc (.cells #[.int .i64 n, .int .i64 d] 25))
      have KKO15 := Lib.hid (KO15.out.alloc (.cells #[.int .i64 n, .int .i64 d] 25))
      have KKM15 := Lib.hid (Blk.new w15 #[.int .i64 n, .int .i64 d] 25)
      have D15 := Lib.hid (bw_alloc E15.out (.cells #[.int .i64 n, .int .i64 d] 25))
      go_wp2
      go_ret
      exact ⟨rfl, D15.out⟩
    --CHAINEND
end Go.Proofs.YthkmhpkoanmbkaaDoor
