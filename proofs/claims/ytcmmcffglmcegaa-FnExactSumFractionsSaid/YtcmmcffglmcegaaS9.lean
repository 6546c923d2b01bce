/-
  Contracts of the reference's SumFractions and what it calls. Conditions: the list lies in memory, its length is no giant; l01FSum's list has valid fractions only.
-/
import Derived.Test.YtcmmcffglmcegaaS8
import Derived.Test.YtcmmcffglmcegaaN18
namespace Go.Proofs.Ytcmmcffglmcegaa
open Go.RowKit
set_option linter.unusedVariables false

set_option maxRecDepth 100000 in
theorem l01FAll_any (fs : List (Int × Int)) (a : Option Addr) (c : Nat) (w : World) (h : HasF w a fs) (hx : fs.length < 1000000000000) :
    Calls Try.prog 40 #[.slice a fs.length c] w fun r w' => r = .returned (.bool (vfL fs)) ∧ Below w.heap.size w w' := by
  have H := Lib.hid h
  clear h
  obtain ⟨L, HL⟩ : ∃ L, Hid (fs.length = L) := ⟨_, Lib.hid rfl⟩
  rw [HL.out] at hx ⊢
  obtain ⟨V, HV⟩ : ∃ V, Hid (vfL fs = V) := ⟨_, Lib.hid rfl⟩
  rw [HV.out]
  go_enter Try.func40, Try.ntmps40
  go_wp2_with fail
  go_loopw [3] (fun i wr => ∃ k : Nat, k ≤ L ∧ i = .int .i64 k ∧ Hid (∀ j, j < k → vfB (fs.getD j (0, 0)).1 (fs.getD j (0, 0)).2 = true) ∧ Hid (Below w.heap.size w wr)) (fun i _ => L - (intOf i).toNat)
  case atStart => exact ⟨0, Nat.zero_le _, rfl, Lib.hid (fun j hj => by omega), Lib.hid (bw_refl _)⟩
  case round =>
    obtain ⟨k, hk, rfl, hg, hB⟩ := hrel
    by_cases hlt : k < L
    · obtain ⟨g, rfl, _, hc⟩ := (H.out.later hB.out) (by rw [HL.out]; omega)
      obtain ⟨q1, q2⟩ := hc k (by rw [HL.out]; omega)
      clear hc
      obtain ⟨z, hz⟩ : ∃ z, Hid (fs.getD k (0, 0) = z) := ⟨_, Lib.hid rfl⟩
      rw [hz.out] at q1 q2
      obtain ⟨n, d⟩ := z
      simp only at q1 q2
      have r0 : (0 : Int) ≤ (k : Int) := by omega
      have r1 : (k : Int) < (L : Int) := by omega
      have r2 : k * 2 = 2 * k := by omega
      cases hv : vfB n d with
      | false =>
        have HN := Lib.hid (vfL_bad (fs := fs) (k := k) (by rw [HL.out]; exact hlt) (by rw [hz.out]; exact hv))
        go_wp2_with fail
        refine (l01FIs_any n d _).mono ?_
        rw [hv]
        rintro e w1 ⟨rfl, hb1⟩
        have HB1 := Lib.hid (bw_call hB.out hb1)
        clear hb1
        go_wp2
        go_ret
        exact ⟨by rw [← HV.out, HN.out]; rfl, HB1.out⟩
      | true =>
        have HG : Hid (∀ j, j < k + 1 → vfB (fs.getD j (0, 0)).1 (fs.getD j (0, 0)).2 = true) := Lib.hid fun j hj => by
          by_cases e : j = k
          · subst e; rw [hz.out]; exact hv
          · exact hg.out j (by omega)
        go_wp2_with fail
        refine (l01FIs_any n d _).mono ?_
        rw [hv]
        rintro e w1 ⟨rfl, hb1⟩
        have HB1 := Lib.hid (bw_call hB.out hb1)
        clear hb1
        go_wp2
        go_roundw
        case rel => exact ⟨k + 1, by omega, by go_num, HG, HB1⟩
        case measure => simp [intOf]; omega
    · have hke : k = L := by omega
      subst hke
      have HG := Lib.hid (vfL_good (fs := fs) (fun j hj => hg.out j (by rw [← HL.out]; exact hj)))
      go_wp2
      go_ret
      exact ⟨by rw [← HV.out, HG.out]; rfl, hB.out⟩
set_option maxRecDepth 100000 in
theorem l01FSum_any (fs : List (Int × Int)) (a : Option Addr) (c : Nat) (w : World) (h : HasF w a fs) (hx : fs.length < 1000000000000) (hv : vfL fs = true) :
    Calls Try.prog 41 #[.slice a fs.length c] w fun r w' => r = .returned (.tuple #[.agg #[.int .i64 ((sumTo fs fs.length).getD (0, 0)).1, .int .i64 ((sumTo fs fs.length).getD (0, 0)).2], .bool (sumTo fs fs.length).isSome]) ∧ Below w.heap.size w w' := by
  have H := Lib.hid h
  have HV := Lib.hid hv
  clear h hv
  obtain ⟨L, HL⟩ : ∃ L, Hid (fs.length = L) := ⟨_, Lib.hid rfl⟩
  rw [HL.out] at hx ⊢
  obtain ⟨S, HE⟩ : ∃ S, Hid (S = sumTo fs L) := ⟨_, Lib.hid rfl⟩
  rw [← HE.out]
  go_enter Try.func41, Try.ntmps41
  go_wp2_with fail
  go_loopw [5] (fun i wr => ∃ (k : Nat) (p q : Int), k ≤ L ∧ i = .int .i64 k ∧ Hid (sumTo fs k = some (p, q)) ∧ Hid (Blk wr (w.heap.size + 1) #[.int .i64 p, .int .i64 q] 24) ∧ Hid (Blk wr w.heap.size #[.int .i64 0, .int .i64 0] 24) ∧ Hid (Below w.heap.size w wr)) (fun i _ => L - (intOf i).toNat)
  case atStart => exact ⟨0, 0, 1, Nat.zero_le _, rfl, Lib.hid rfl, Lib.hid (Blk.new' (by simp) _ _), Lib.hid ((Blk.new w _ _).alloc _), Lib.hid (bw_alloc (bw_alloc (bw_refl w) _) _)⟩
  case round =>
    obtain ⟨k, p, q, hk, rfl, hs, hS, hR, hB⟩ := hrel
    by_cases hlt : k < L
    · obtain ⟨g, rfl, gl, hc⟩ := (H.out.later hB.out) (by rw [HL.out]; omega)
      obtain ⟨q1, q2⟩ := hc k (by rw [HL.out]; omega)
      clear hc
      have hme : vfB (fs.getD k (0, 0)).1 (fs.getD k (0, 0)).2 = true := by
        cases hh : vfB (fs.getD k (0, 0)).1 (fs.getD k (0, 0)).2 with
        | true => rfl
        | false => have := vfL_bad (fs := fs) (k := k) (by rw [HL.out]; exact hlt) hh; rw [HV.out] at this; cases this
      obtain ⟨z, hz⟩ : ∃ z, Hid (fs.getD k (0, 0) = z) := ⟨_, Lib.hid rfl⟩
      rw [hz.out] at q1 q2 hme
      obtain ⟨m, e⟩ := z
      simp only at q1 q2 hme
      have HME := Lib.hid hme
      have HPQ := Lib.hid (sumTo_valid hs.out)
      clear hme
      have r0 : (0 : Int) ≤ (k : Int) := by omega
      have r1 : (k : Int) < (L : Int) := by omega
      have r2 : k * 2 = 2 * k := by omega
      have s0 := hS.out.cell 0 rfl
      have s1 := hS.out.cell 1 rfl
      have l2 := hS.out.lt
      have n1 : ¬ w.heap.size + 1 = wr.heap.size := by omega
      have n2 : ¬ wr.heap.size = w.heap.size + 1 := by omega
      have hst : sumTo fs (k + 1) = sumS (p, q) (m, e) := by rw [sumTo, hs.out, hz.out]; rfl
      unfold sumS at hst
      simp only at hst
      obtain ⟨x, hx1⟩ : ∃ x, Hid (cmN p q m e (p * e + m * q) (q * e) = x) := ⟨_, Lib.hid rfl⟩
      obtain ⟨y, hy1⟩ : ∃ x, Hid (cmD p q m e (p * e + m * q) (q * e) = x) := ⟨_, Lib.hid rfl⟩
      obtain ⟨b, hb1⟩ : ∃ x, Hid (cmB p q m e (p * e + m * q) (q * e) = x) := ⟨_, Lib.hid rfl⟩
      rw [hx1.out, hy1.out, hb1.out] at hst
      have HST := Lib.hid hst
      clear hst
      go_wp2_with fail
      have HAD : Hid (∀ W, Calls Try.prog 36 #[.agg #[.int .i64 p, .int .i64 q], .agg #[.int .i64 m, .int .i64 e]] W fun r w' => r = .returned (.tuple #[.agg #[.int .i64 x, .int .i64 y], .bool b]) ∧ Below W.heap.size W w') := Lib.hid (fun W => by rw [← hx1.out, ← hy1.out, ← hb1.out]; exact l01FAdd_any p q m e W HPQ.out HME.out)
      have gw := gl
      have n5 : ¬ g = wr.heap.size := by omega
      have n6 : ¬ wr.heap.size = g := by omega
      refine Code.wp_mono (Q := fun ex a' w' => ex = Exit.normal ∧ ∃ g2 : Nat, a' = { tmps := #[Value.slice (some { block := g, off := 0 }) L c, undef, Value.pointer (some { block := w.heap.size, off := 0 }), u3, Value.pointer (some { block := w.heap.size + 1, off := 0 }), Value.int IntKind.i64 ↑k, Value.pointer (some { block := g2, off := 0 }), Value.bool b, Value.agg #[Value.int IntKind.i64 0, Value.int IntKind.i64 1], Value.int IntKind.i64 ↑k, Value.slice (some { block := g, off := 0 }) L c, Value.int IntKind.i64 ↑L, Value.bool true, u13, u14, Value.tuple #[Value.agg #[Value.int IntKind.i64 x, Value.int IntKind.i64 y], Value.bool b], Value.agg #[Value.int IntKind.i64 p, Value.int IntKind.i64 q], Value.slice (some { block := g, off := 0 }) L c, Value.int IntKind.i64 ↑k, Value.pointer (some { block := g, off := 2 * k }), Value.agg #[Value.int IntKind.i64 m, Value.int IntKind.i64 e], Value.tuple #[Value.agg #[Value.int IntKind.i64 x, Value.int IntKind.i64 y], Value.bool b], Value.agg #[Value.int IntKind.i64 x, Value.int IntKind.i64 y], Value.bool b, u24, u25, u26, u27, undef], defers := [] } ∧ Hid (Blk w' (w.heap.size + 1) #[.int .i64 p, .int .i64 q] 24 ∧ Blk w' w.heap.size #[.int .i64 0, .int .i64 0] 24 ∧ Blk w' g2 #[.int .i64 x, .int .i64 y] 24 ∧ Below w.heap.size w w' ∧ w.heap.size + 1 < g2)) ?hq ?hr
      case hr =>
        go_region_held3 (fun w' => w'.cell? ⟨w.heap.size + 1, 0, none⟩ = some (.int .i64 p) ∧ w'.cell? ⟨w.heap.size + 1, 1, none⟩ = some (.int .i64 q) ∧ w'.cell? ⟨g, 2 * k, none⟩ = some (.int .i64 m) ∧ w'.cell? ⟨g, 2 * k + 1, none⟩ = some (.int .i64 e)) (go_keep)
          ((go_at_call 36; refine (HAD.out _).mono ?_; rintro r w2 ⟨rfl, hb2⟩
            have S2 : Blk w2 (w.heap.size + 1) #[.int .i64 p, .int .i64 q] 24 := by
              first
                | exact (hS.out.alloc _).drew.later hb2
                | exact hS.out.drew.later hb2
            have R2 : Blk w2 w.heap.size #[.int .i64 0, .int .i64 0] 24 := by
              first
                | exact (hR.out.alloc _).drew.later hb2
                | exact hR.out.drew.later hb2
            have B2 : Below w.heap.size w w2 := by
              first
                | exact bw_call (bw_drew (bw_alloc hB.out _)) hb2
                | exact bw_call (bw_drew hB.out) hb2
            have sz2 := hb2.size
            try simp at sz2
            obtain ⟨g', eg, _, hc2⟩ := (H.out.later B2) (by rw [HL.out]; omega)
            cases eg
            obtain ⟨q3, q4⟩ := hc2 k (by rw [HL.out]; omega)
            clear hc2
            rw [hz.out] at q3 q4
            simp only at q3 q4
            have q5 := S2.cell 0 rfl; have q6 := S2.cell 1 rfl
            try (have D2 : Blk w2 wr.heap.size #[.int .i64 0, .int .i64 0] 24 := (Blk.drew (Blk.new wr _ _)).later hb2
                 have d0 := D2.cell 0 rfl; have d1 := D2.cell 1 rfl; have d2 := D2.free 0; have d3 := D2.free 1)))
        all_goals first
          | exact ⟨rfl, _, rfl, Lib.hid ⟨S2.alloc _, R2.alloc _, Blk.new w2 _ _, bw_alloc B2 _, by omega⟩⟩
          | exact ⟨rfl, _, rfl, Lib.hid ⟨(S2.far (by simp <;> omega) _).far (by simp <;> omega) _, (R2.far (by simp <;> omega) _).far (by simp <;> omega) _, D2.set2 _ _, bw_setCell (bw_setCell B2 (by simp <;> omega) _) (by simp <;> omega) _, by omega⟩⟩
      case hq =>
      rintro ex a' w2 ⟨rfl, g2, rfl, H2⟩
      have S2 := Lib.hid H2.out.1
      have R2 := Lib.hid H2.out.2.1
      have X2 := Lib.hid H2.out.2.2.1
      have HB2 := Lib.hid H2.out.2.2.2.1
      have l3 := H2.out.2.2.2.2
      clear H2 hS hR hB q1 q2 s0 s1 n1 n2 n5 n6 l2
      have s0 := S2.out.cell 0 rfl
      have s1 := S2.out.cell 1 rfl
      have f0 := S2.out.free 0
      have f1 := S2.out.free 1
      have g0 := R2.out.cell 0 rfl
      have g1 := R2.out.cell 1 rfl
      have e0 := R2.out.free 0
      have e1 := R2.out.free 1
      have x0 := X2.out.cell 0 rfl
      have x1 := X2.out.cell 1 rfl
      cases hbb : b with
      | false =>
        have HN : Hid (S = none) := Lib.hid (by
          rw [HE.out]
          have e := sumTo_none (fs := fs) (k := k + 1) (by rw [HST.out, hbb]; rfl) (L - (k + 1))
          rwa [show k + 1 + (L - (k + 1)) = L by omega] at e)
        clear HST
        go_wp2
        refine bodyPost_ret (v := .tuple #[.agg #[.int .i64 0, .int .i64 0], .bool false]) (by simp [results, Try.results41, go_sem, g0, g1]) rfl ⟨by rw [HN.out]; rfl, ?_⟩
        repeat (first | exact HB2.out | refine bw_setCell ?_ (by simp <;> omega) _)
      | true =>
        have HN : Hid (sumTo fs (k + 1) = some (x, y)) := Lib.hid (by rw [HST.out, hbb]; rfl)
        clear HST g0 g1 e0 e1
        go_wp2
        go_roundw
        case rel => exact ⟨k + 1, x, y, by omega, by go_num, HN, Lib.hid (S2.out.set2 _ _), Lib.hid ((R2.out.far (by simp <;> omega) _).far (by simp <;> omega) _), Lib.hid (bw_setCell (bw_setCell HB2.out (by simp <;> omega) _) (by simp <;> omega) _)⟩
        case measure => simp [intOf]; omega
    · have hke : k = L := by omega
      subst hke
      have s0 := hS.out.cell 0 rfl
      have s1 := hS.out.cell 1 rfl
      have g0 := hR.out.cell 0 rfl
      have g1 := hR.out.cell 1 rfl
      have e0 := hR.out.free 0
      have e1 := hR.out.free 1
      go_wp2
      refine bodyPost_ret (v := .tuple #[.agg #[.int .i64 p, .int .i64 q], .bool true]) (by simp [results, Try.results41, go_sem, g0, g1]) rfl ⟨by rw [HE.out, hs.out]; rfl, ?_⟩
      repeat (first | exact hB.out | refine bw_setCell ?_ (by simp <;> omega) _)
set_option maxRecDepth 100000 in
theorem sSumFractions_any (fs : List (Int × Int)) (a : Option Addr) (c : Nat) (w : World) (h : HasF w a fs) (hx : fs.length < 1000000000000) :
    Calls Try.prog 22 #[.slice a fs.length c] w fun r w' => r = .returned (.tuple #[.agg #[.int .i64 ((sumA fs).getD (0, 0)).1, .int .i64 ((sumA fs).getD (0, 0)).2], .bool (sumA fs).isSome]) ∧ Below w.heap.size w w' := by
  have H := Lib.hid h
  have HF : Hid (∀ W, Below w.heap.size w W → Calls Try.prog 40 #[.slice a fs.length c] W fun e w' => e = .returned (.bool (vfL fs)) ∧ Below W.heap.size W w') := Lib.hid fun W hb => l01FAll_any fs a c W (h.later hb) hx
  have HG : Hid (vfL fs = true → ∀ W, Below w.heap.size w W → Calls Try.prog 41 #[.slice a fs.length c] W fun r w' => r = .returned (.tuple #[.agg #[.int .i64 ((sumTo fs fs.length).getD (0, 0)).1, .int .i64 ((sumTo fs fs.length).getD (0, 0)).2], .bool (sumTo fs fs.length).isSome]) ∧ Below W.heap.size W w') := Lib.hid fun hv W hb => l01FSum_any fs a c W (h.later hb) hx hv
  clear h
  obtain ⟨L, HL⟩ : ∃ L, Hid (fs.length = L) := ⟨_, Lib.hid rfl⟩
  rw [HL.out] at hx HF HG ⊢
  obtain ⟨S, HS⟩ : ∃ S, Hid (sumA fs = S) := ⟨_, Lib.hid rfl⟩
  rw [HS.out]
  by_cases hL : L ≤ 64
  · have c1 : decide ((64 : Int) < (L : Int)) = false := decide_eq_false (by omega)
    have c2 : decide (64 < L) = false := decide_eq_false (by omega)
    cases hv : vfL fs with
    | false =>
      have HE : Hid (S = none) := Lib.hid (by rw [← HS.out, sumA, hv]; simp)
      rw [HE.out]
      go_enter Try.func22, Try.ntmps22
      go_wp2_with fail
      refine (HF.out _ (bw_alloc (bw_refl w) _)).mono ?_
      rw [hv]
      rintro r w1 ⟨rfl, hb1⟩
      have E2 : Blk w1 w.heap.size #[.int .i64 0, .int .i64 0] 24 := (Blk.new w _ _).later hb1
      have HB := Lib.hid (bw_call (bw_alloc (bw_refl w) _) hb1)
      have g0 := E2.cell 0 rfl
      have g1 := E2.cell 1 rfl
      have e0 := E2.free 0
      have e1 := E2.free 1
      clear hb1
      go_wp2
      refine bodyPost_ret (v := .tuple #[.agg #[.int .i64 0, .int .i64 0], .bool false]) (by simp [results, Try.results22, go_sem, g0, g1]) rfl ⟨rfl, ?_⟩
      first
        | exact HB.out
        | exact bw_setCell (bw_setCell HB.out (by simp) _) (by simp) _
    | true =>
      have HE : Hid (S = sumTo fs L) := Lib.hid (by rw [← HS.out, sumA, hv, HL.out, decide_eq_true hL]; rfl)
      have HG2 := Lib.hid (HG.out hv)
      obtain ⟨x, hx1⟩ : ∃ x, Hid ((S.getD (0, 0)).1 = x) := ⟨_, Lib.hid rfl⟩
      obtain ⟨y, hy1⟩ : ∃ x, Hid ((S.getD (0, 0)).2 = x) := ⟨_, Lib.hid rfl⟩
      obtain ⟨b, hb1⟩ : ∃ x, Hid (S.isSome = x) := ⟨_, Lib.hid rfl⟩
      rw [← HE.out, hx1.out, hy1.out, hb1.out] at HG2
      rw [hx1.out, hy1.out, hb1.out]
      go_enter Try.func22, Try.ntmps22
      go_wp2_with fail
      refine (HF.out _ (bw_alloc (bw_refl w) _)).mono ?_
      rw [hv]
      rintro r w1 ⟨rfl, hb1⟩
      have E2 := Lib.hid (show Blk w1 w.heap.size #[.int .i64 0, .int .i64 0] 24 from (Blk.new w _ _).later hb1)
      have HB := Lib.hid (bw_call (bw_alloc (bw_refl w) _) hb1)
      clear hb1
      go_wp2_with fail
      refine (HG2.out _ HB.out).mono ?_
      rintro r w2 ⟨rfl, hb2⟩
      have E3 := E2.out.later hb2
      have HB2 := Lib.hid (bw_call HB.out hb2)
      have g0 := E3.cell 0 rfl
      have g1 := E3.cell 1 rfl
      have e0 := E3.free 0
      have e1 := E3.free 1
      clear hb2
      go_wp2
      refine bodyPost_ret (v := .tuple #[.agg #[.int .i64 x, .int .i64 y], .bool b]) (by simp [results, Try.results22, go_sem, g0, g1]) rfl ⟨rfl, ?_⟩
      first
        | exact HB2.out
        | exact bw_setCell (bw_setCell HB2.out (by simp) _) (by simp) _
  · have c1 : decide ((64 : Int) < (L : Int)) = true := decide_eq_true (by omega)
    have c2 : decide (64 < L) = true := decide_eq_true (by omega)
    have HE : Hid (S = none) := Lib.hid (by rw [← HS.out, sumA, HL.out, decide_eq_false hL]; simp)
    rw [HE.out]
    go_enter Try.func22, Try.ntmps22
    go_wp2
    refine bodyPost_ret (v := .tuple #[.agg #[.int .i64 0, .int .i64 0], .bool false]) (by simp [results, Try.results22, go_sem]) rfl ⟨rfl, ?_⟩
    first
      | exact bw_alloc (bw_refl w) _
      | exact bw_setCell (bw_setCell (bw_alloc (bw_refl w) _) (by simp) _) (by simp) _
end Go.Proofs.Ytcmmcffglmcegaa
