/-
  Contract of impl.SumFractions. Conditions: the list lies in memory, its length is no giant.
-/
import Derived.Test.YthkmhpkoanmbkaaDoorN17
namespace Go.Proofs.YthkmhpkoanmbkaaDoor
open Go.RowKit
set_option linter.unusedVariables false

/-- One step of a sum: the sum of two fractions, if it is one. -/
def sumS (s f : Int × Int) : Option (Int × Int) := if cmB s.1 s.2 f.1 f.2 (s.1 * f.2 + f.1 * s.2) (s.2 * f.2) = true then some (cmN s.1 s.2 f.1 f.2 (s.1 * f.2 + f.1 * s.2) (s.2 * f.2), cmD s.1 s.2 f.1 f.2 (s.1 * f.2 + f.1 * s.2) (s.2 * f.2)) else none
def sumTo (fs : List (Int × Int)) : Nat → Option (Int × Int)
  | 0 => some (0, 1)
  | k + 1 => (sumTo fs k).bind fun s => sumS s (fs.getD k (0, 0))
def sumA (fs : List (Int × Int)) : Option (Int × Int) := if decide (fs.length ≤ 64) && vfL fs then sumTo fs fs.length else none
theorem sumTo_none {fs : List (Int × Int)} {k : Nat} (h : sumTo fs k = none) : ∀ j, sumTo fs (k + j) = none := by
  intro j
  induction j with
  | zero => exact h
  | succ j ih => rw [← Nat.add_assoc, sumTo, ih]; rfl
theorem sum_valid {N D : Int} (hD : 0 < D) (h : frB N D = true) : vfB (sg (decide (N < 0)) (absI N / gcdI (absI N) D)) (D / gcdI (absI N) D) = true := by
  obtain ⟨n, d, k, h1, h2, h3, h4, h5, h6, h7, h8⟩ := red_exists (N := N) hD
  have e1 : absI N / gcdI (absI N) D = absI n := by
    rw [h6, h3]
    have : absI (n * k) = absI n * k := by
      have hk : (k.natAbs : Int) = k := Int.natAbs_of_nonneg (by omega)
      unfold absI
      rw [Int.natAbs_mul, Int.natCast_mul, hk]
    rw [this]
    exact Int.mul_ediv_cancel _ (by omega)
  have e2 : D / gcdI (absI N) D = d := by rw [h6, h8]
  have e3 : decide (N < 0) = decide (n < 0) := by
    by_cases c : n < 0
    · rw [decide_eq_true c, h3]
      exact decide_eq_true (Int.mul_neg_of_neg_of_pos c h2)
    · rw [decide_eq_false c, h3]
      have := Int.mul_nonneg (show 0 ≤ n by omega) (show 0 ≤ k by omega)
      exact decide_eq_false (by omega)
  unfold frB at h
  rw [e1, e2] at h
  rw [e1, e2, e3, sg_abs]
  rw [Bool.and_eq_true, decide_eq_true_iff, decide_eq_true_iff] at h
  unfold vfB
  rw [inR_mk (show 1 ≤ d by omega) h.2, inR_mk (show -1000000000000000000 ≤ n by have := h.1; unfold absI at this; omega) (show n ≤ 1000000000000000000 by have := h.1; unfold absI at this; omega), CopI.to (by omega) h5]
  rfl
theorem sumS_valid {s f t : Int × Int} (h : sumS s f = some t) : vfB t.1 t.2 = true := by
  unfold sumS at h
  split at h
  · rename_i hc
    cases h
    have hc2 := hc
    unfold cmB at hc2
    rw [Bool.and_eq_true, Bool.and_eq_true] at hc2
    obtain ⟨⟨a1, a2⟩, a3⟩ := hc2
    have b1 := vfB_true a1
    have b2 := vfB_true a2
    unfold cmN cmD
    simp only [hc, if_true]
    exact sum_valid (Int.mul_pos (by omega) (by omega)) a3
  · cases h
theorem sumTo_valid {fs : List (Int × Int)} {t : Int × Int} : ∀ {k : Nat}, sumTo fs k = some t → vfB t.1 t.2 = true
  | 0, h => by cases h; decide
  | k + 1, h => by
    rw [sumTo] at h
    cases hs : sumTo fs k with
    | none => rw [hs] at h; cases h
    | some s => rw [hs] at h; exact sumS_valid h
set_option maxRecDepth 100000 in
theorem SumFractions_any (fs : List (Int × Int)) (a : Option Addr) (c : Nat) (w : World) (h : HasF w a fs) (hx : fs.length < 1000000000000) :
    Calls Tryd.prog 14 #[.slice a fs.length c] w fun r w' => r = .returned (.tuple #[.agg #[.int .i64 ((sumA fs).getD (0, 0)).1, .int .i64 ((sumA fs).getD (0, 0)).2], .bool (sumA fs).isSome]) ∧ Below w.heap.size w w' := by
  have H := Lib.hid h
  have HF : Hid (∀ W, Below w.heap.size w W → Calls Tryd.prog 24 #[.slice a fs.length c] W fun e w' => e = .returned (.bool (vfL fs)) ∧ Below W.heap.size W w') := Lib.hid fun W hb => areFractions_any fs a c W (h.later hb) hx
  clear h
  obtain ⟨L, HL⟩ : ∃ L, Hid (fs.length = L) := ⟨_, Lib.hid rfl⟩
  rw [HL.out] at hx HF ⊢
  obtain ⟨S, HS⟩ : ∃ S, Hid (sumA fs = S) := ⟨_, Lib.hid rfl⟩
  rw [HS.out]
  by_cases hL : L ≤ 64
  · have c1 : decide ((64 : Int) < (L : Int)) = false := decide_eq_false (by omega)
    have c2 : decide (64 < L) = false := decide_eq_false (by omega)
    cases hv : vfL fs with
    | false =>
      have HE : Hid (S = none) := Lib.hid (by rw [← HS.out, sumA, hv]; simp)
      rw [HE.out]
      go_enter Tryd.func14, Tryd.ntmps14
      go_wp2_with fail
      refine (HF.out _ (bw_alloc (bw_refl w) _)).mono ?_
      rw [hv]
      rintro r w1 ⟨rfl, hb1⟩
      have E2 : Blk w1 w.heap.size #[.int .i64 0, .int .i64 0] 25 := (Blk.new w _ _).later hb1
      have HB := Lib.hid (bw_call (bw_alloc (bw_refl w) _) hb1)
      have g0 := E2.cell 0 rfl
      have g1 := E2.cell 1 rfl
      have e0 := E2.free 0
      have e1 := E2.free 1
      clear hb1
      go_wp2
      refine bodyPost_ret (v := .tuple #[.agg #[.int .i64 0, .int .i64 0], .bool false]) (by simp [results, Tryd.results14, go_sem, g0, g1]) rfl ⟨rfl, ?_⟩
      first
        | exact HB.out
        | exact bw_setCell (bw_setCell HB.out (by simp) _) (by simp) _
    | true =>
      have HE : Hid (S = sumTo fs L) := Lib.hid (by rw [← HS.out, sumA, hv, HL.out, decide_eq_true hL]; rfl)
      go_enter Tryd.func14, Tryd.ntmps14
      go_wp2_with fail
      refine (HF.out _ (bw_alloc (bw_refl w) _)).mono ?_
      rw [hv]
      rintro r w1 ⟨rfl, hb1⟩
      have E2 := Lib.hid (show Blk w1 w.heap.size #[.int .i64 0, .int .i64 0] 25 from (Blk.new w _ _).later hb1)
      have HB := Lib.hid (bw_call (bw_alloc (bw_refl w) _) hb1)
      have l1 := E2.out.lt
      clear hb1
      have la : w.heap.size < w1.heap.size + 1 := by omega
      have HX : Hid (w.heap.size < w1.heap.size) := Lib.hid l1
      go_wp2_with fail
      go_loopw [20] (fun i wr => ∃ (k : Nat) (p q : Int), k ≤ L ∧ i = .int .i64 k ∧ Hid (sumTo fs k = some (p, q)) ∧ Hid (Blk wr w1.heap.size #[.int .i64 p, .int .i64 q] 25) ∧ Hid (Blk wr w.heap.size #[.int .i64 0, .int .i64 0] 25) ∧ Hid (Below w.heap.size w wr)) (fun i _ => L - (intOf i).toNat)
      case atStart => exact ⟨0, 0, 1, Nat.zero_le _, rfl, Lib.hid rfl, Lib.hid (Blk.new w1 _ _), Lib.hid (E2.out.alloc _), Lib.hid (bw_alloc HB.out _)⟩
      case round =>
        obtain ⟨k, p, q, hk, rfl, hs, hS, hR, hB⟩ := hrel
        clear E2 HB l1 la
        by_cases hlt : k < L
        · obtain ⟨g, rfl, gl, hc⟩ := (H.out.later hB.out) (by rw [HL.out]; omega)
          obtain ⟨q1, q2⟩ := hc k (by rw [HL.out]; omega)
          clear hc
          obtain ⟨z, hz⟩ : ∃ z, Hid (fs.getD k (0, 0) = z) := ⟨_, Lib.hid rfl⟩
          rw [hz.out] at q1 q2
          obtain ⟨m, e⟩ := z
          simp only at q1 q2
          have r0 : (0 : Int) ≤ (k : Int) := by omega
          have r1 : (k : Int) < (L : Int) := by omega
          have r2 : k * 2 = 2 * k := by omega
          have s0 := hS.out.cell 0 rfl
          have s1 := hS.out.cell 1 rfl
          have l2 := hS.out.lt
          have n1 : ¬ w1.heap.size = wr.heap.size := by omega
          have n2 : ¬ wr.heap.size = w1.heap.size := by omega
          have hst : sumTo fs (k + 1) = sumS (p, q) (m, e) := by rw [sumTo, hs.out, hz.out]; rfl
          unfold sumS at hst
          simp only at hst
          obtain ⟨x, hx1⟩ : ∃ x, Hid (cmN p q m e (p * e + m * q) (q * e) = x) := ⟨_, Lib.hid rfl⟩
          obtain ⟨y, hy1⟩ : ∃ x, Hid (cmD p q m e (p * e + m * q) (q * e) = x) := ⟨_, Lib.hid rfl⟩
          obtain ⟨b, hb1⟩ : ∃ x, Hid (cmB p q m e (p * e + m * q) (q * e) = x) := ⟨_, Lib.hid rfl⟩
          rw [hx1.out, hy1.out, hb1.out] at hst
          have HST := Lib.hid hst
          clear hst
          go_wp2_with fail
          refine (AddFractions_any p q m e _).mono ?_
          rw [hx1.out, hy1.out, hb1.out]
          rintro r w2 ⟨rfl, hb2⟩
          have S2 := Lib.hid ((hS.out.alloc (.cells #[.int .i64 m, .int .i64 e] 25)).later hb2)
          have R2 := Lib.hid ((hR.out.alloc (.cells #[.int .i64 m, .int .i64 e] 25)).later hb2)
          have HB2 := Lib.hid (bw_call (bw_alloc hB.out (.cells #[.int .i64 m, .int .i64 e] 25)) hb2)
          clear hb2 hS hR hB q1 q2 s0 s1 n1 n2
          have s0 := S2.out.cell 0 rfl
          have s1 := S2.out.cell 1 rfl
          have f0 := S2.out.free 0
          have f1 := S2.out.free 1
          have g0 := R2.out.cell 0 rfl
          have g1 := R2.out.cell 1 rfl
          have e0 := R2.out.free 0
          have e1 := R2.out.free 1
          have n1 : ¬ w.heap.size = w1.heap.size := by have := HX.out; omega
          have n2 : ¬ w1.heap.size = w.heap.size := by have := HX.out; omega
          cases hbb : b with
          | false =>
            have HN : Hid (S = none) := Lib.hid (by
              rw [HE.out]
              have e := sumTo_none (fs := fs) (k := k + 1) (by rw [HST.out, hbb]; rfl) (L - (k + 1))
              rwa [show k + 1 + (L - (k + 1)) = L by omega] at e)
            clear HST
            go_wp2
            refine bodyPost_ret (v := .tuple #[.agg #[.int .i64 0, .int .i64 0], .bool false]) (by simp [results, Tryd.results14, go_sem, g0, g1, n1, n2]) rfl ⟨by rw [HN.out]; rfl, ?_⟩
            have := HX.out
            repeat (first | exact HB2.out | refine bw_setCell ?_ (by simp <;> omega) _)
          | true =>
            have HN : Hid (sumTo fs (k + 1) = some (x, y)) := Lib.hid (by rw [HST.out, hbb]; rfl)
            clear HST g0 g1 e0 e1
            go_wp2
            go_roundw
            case rel => exact ⟨k + 1, x, y, by omega, by go_num, HN, Lib.hid (S2.out.set2 _ _), Lib.hid ((R2.out.far (by simp; omega) _).far (by simp; omega) _), Lib.hid (bw_setCell (bw_setCell HB2.out (by have := HX.out; simp; omega) _) (by have := HX.out; simp; omega) _)⟩
            case measure => simp [intOf]; omega
        · have hke : k = L := by omega
          subst hke
          have s0 := hS.out.cell 0 rfl
          have s1 := hS.out.cell 1 rfl
          have g0 := hR.out.cell 0 rfl
          have g1 := hR.out.cell 1 rfl
          have e0 := hR.out.free 0
          have e1 := hR.out.free 1
          have n1 : ¬ w.heap.size = w1.heap.size := by have := HX.out; omega
          have n2 : ¬ w1.heap.size = w.heap.size := by have := HX.out; omega
          go_wp2
          refine bodyPost_ret (v := .tuple #[.agg #[.int .i64 p, .int .i64 q], .bool true]) (by simp [results, Tryd.results14, go_sem, g0, g1, n1, n2]) rfl ⟨by rw [HE.out, hs.out]; rfl, ?_⟩
          have := HX.out
          repeat (first | exact hB.out | refine bw_setCell ?_ (by simp <;> omega) _)
  · have c1 : decide ((64 : Int) < (L : Int)) = true := decide_eq_true (by omega)
    have c2 : decide (64 < L) = true := decide_eq_true (by omega)
    have HE : Hid (S = none) := Lib.hid (by rw [← HS.out, sumA, HL.out, decide_eq_false hL]; simp)
    rw [HE.out]
    go_enter Tryd.func14, Tryd.ntmps14
    go_wp2
    refine bodyPost_ret (v := .tuple #[.agg #[.int .i64 0, .int .i64 0], .bool false]) (by simp [results, Tryd.results14, go_sem]) rfl ⟨rfl, ?_⟩
    first
      | exact bw_alloc (bw_refl w) _
      | exact bw_setCell (bw_setCell (bw_alloc (bw_refl w) _) (by simp) _) (by simp) _
end Go.Proofs.YthkmhpkoanmbkaaDoor
