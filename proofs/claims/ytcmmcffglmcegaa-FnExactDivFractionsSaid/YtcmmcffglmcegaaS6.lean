/-
  Contract of the reference's DivFractions. No condition beyond int64's bounds.
-/
import Derived.Test.YtcmmcffglmcegaaS5
namespace Go.Proofs.Ytcmmcffglmcegaa
open Go.RowKit
set_option linter.unusedVariables false

theorem div_none {n d m e : Int} (h : m = 0 ∨ (vfB n d && vfB m e) = false) : dvB n d m e = false ∧ dvP n d m e = 0 ∧ dvQ n d m e = 0 := by
  by_cases hm : m = 0
  · subst hm
    exact ⟨rfl, rfl, rfl⟩
  · have hv : (vfB n d && vfB m e) = false := by
      rcases h with h | h
      · exact absurd h hm
      · exact h
    have hb : ∀ N D, cmB n d m e N D = false := fun N D => by unfold cmB; rw [hv]; rfl
    refine ⟨by unfold dvB; rw [hb]; simp, ?_, ?_⟩
    · unfold dvP cmN
      rw [if_neg hm, hb]; rfl
    · unfold dvQ cmD
      rw [if_neg hm, hb]; rfl
/-- A fraction turned upside down. -/
theorem fm_flip {m e : Int} (h : vfB m e = true) (hm : m ≠ 0) : (fmN e m = if m < 0 then -e else e) ∧ fmD e m = absI m ∧ vfB (fmN e m) (fmD e m) = true := by
  obtain ⟨u1, u2, u3⟩ := vfB_true h
  have hc := CopI.of (by omega) u3
  have key : (fmN e m = if m < 0 then -e else e) ∧ fmD e m = absI m := by
    by_cases c : m < 0
    · have g : gcdI (absI (-e)) (-m) = 1 := CopI.to (by omega) (by
        unfold CopI at *
        rw [Int.natAbs_neg, Int.natAbs_neg, Nat.gcd_comm]; exact hc)
      unfold fmN fmD
      rw [if_pos c, if_pos c, if_pos c, g]
      refine ⟨by rw [Int.tdiv_one], ?_⟩
      rw [Int.ediv_one]; unfold absI; omega
    · have g : gcdI (absI e) m = 1 := CopI.to (by omega) hc.symm
      unfold fmN fmD
      rw [if_neg c, if_neg c, if_neg c, g]
      refine ⟨by rw [Int.tdiv_one], ?_⟩
      rw [Int.ediv_one]; unfold absI; omega
  refine ⟨key.1, key.2, ?_⟩
  rw [key.1, key.2]
  unfold vfB
  rw [inR_mk (show 1 ≤ absI m by unfold absI; omega) (show absI m ≤ 1000000000000000000 by unfold absI; omega), inR_mk (show -1000000000000000000 ≤ (if m < 0 then -e else e) by split <;> omega) (show (if m < 0 then -e else e) ≤ 1000000000000000000 by split <;> omega)]
  have g : gcdI (absI (if m < 0 then -e else e)) (absI m) = 1 := CopI.to (absI_nonneg m) (by
    unfold CopI at *
    have e1 : (absI m).natAbs = m.natAbs := by unfold absI; omega
    rw [e1]
    split
    · rw [Int.natAbs_neg, Nat.gcd_comm]; exact hc
    · rw [Nat.gcd_comm]; exact hc)
  rw [g]; rfl
theorem div_some {n d m e : Int} (h1 : vfB n d = true) (h2 : vfB m e = true) (hm : m ≠ 0) : cmN n d (fmN e m) (fmD e m) (n * fmN e m) (d * fmD e m) = dvP n d m e ∧ cmD n d (fmN e m) (fmD e m) (n * fmN e m) (d * fmD e m) = dvQ n d m e ∧ cmB n d (fmN e m) (fmD e m) (n * fmN e m) (d * fmD e m) = dvB n d m e := by
  obtain ⟨f1, f2, f3⟩ := fm_flip h2 hm
  have hN : n * fmN e m = dvN n m e := by
    rw [f1]
    unfold dvN
    split
    · grind
    · rfl
  have hB : ∀ N D, cmB n d (fmN e m) (fmD e m) N D = cmB n d m e N D := fun N D => by unfold cmB; rw [f3, h2]
  have hz : (m == 0) = false := beq_eq_false_iff_ne.2 hm
  refine ⟨?_, ?_, ?_⟩
  · unfold dvP cmN
    rw [if_neg hm, hB, hN, f2]
  · unfold dvQ cmD
    rw [if_neg hm, hB, hN, f2]
  · unfold dvB
    rw [hB, hN, f2, hz]; rfl
set_option maxRecDepth 100000 in
theorem sDivFractions_any (n d m e : Int) (w : World) :
    Calls Try.prog 15 #[.agg #[.int .i64 n, .int .i64 d], .agg #[.int .i64 m, .int .i64 e]] w fun r w' => r = .returned (.tuple #[.agg #[.int .i64 (dvP n d m e), .int .i64 (dvQ n d m e)], .bool (dvB n d m e)]) ∧ Below w.heap.size w w' := by
  cases hv1 : vfB n d with
  | false =>
    have H0 : Hid (dvB n d m e = false ∧ dvP n d m e = 0 ∧ dvQ n d m e = 0) := Lib.hid (div_none (.inr (by rw [hv1]; rfl)))
    go_enter Try.func15, Try.ntmps15
    go_wp2_with fail
    refine (l01FIs_any n d _).mono ?_
    rw [hv1]
    rintro r w1 ⟨rfl, hb1⟩
    have E0 := Lib.hid (show Blk w1 w.heap.size #[.int .i64 n, .int .i64 d] 24 from (((Blk.new w _ _).alloc _).alloc _).later hb1)
    have E1 := Lib.hid (show Blk w1 (w.heap.size + 1) #[.int .i64 m, .int .i64 e] 24 from ((Blk.new' (by simp) _ _).alloc _).later hb1)
    have E2 := Lib.hid (show Blk w1 (w.heap.size + 1 + 1) #[.int .i64 0, .int .i64 0] 24 from (Blk.new' (by simp) _ _).later hb1)
    have HB := Lib.hid (bw_call (bw_alloc (bw_alloc (bw_alloc (bw_refl w) _) _) _) hb1)
    clear hb1
    have q00 := E0.out.cell 0 rfl
    have q01 := E0.out.cell 1 rfl
    have q10 := E1.out.cell 0 rfl
    have q11 := E1.out.cell 1 rfl
    have g0 := E2.out.cell 0 rfl
    have g1 := E2.out.cell 1 rfl
    have e0 := E2.out.free 0
    have e1 := E2.out.free 1
    go_wp2
    refine bodyPost_ret (v := .tuple #[.agg #[.int .i64 0, .int .i64 0], .bool false]) (by simp [results, Try.results15, go_sem, g0, g1]) rfl ⟨by rw [H0.out.1, H0.out.2.1, H0.out.2.2], ?_⟩
    exact bw_setCell (bw_setCell HB.out (by simp <;> omega) _) (by simp <;> omega) _
  | true =>
    cases hv2 : vfB m e with
    | false =>
      have H0 : Hid (dvB n d m e = false ∧ dvP n d m e = 0 ∧ dvQ n d m e = 0) := Lib.hid (div_none (.inr (by rw [hv2]; simp)))
      go_enter Try.func15, Try.ntmps15
      go_wp2_with fail
      refine (l01FIs_any n d _).mono ?_
      rw [hv1]
      rintro r w1 ⟨rfl, hb1⟩
      have E0 := Lib.hid (show Blk w1 w.heap.size #[.int .i64 n, .int .i64 d] 24 from (((Blk.new w _ _).alloc _).alloc _).later hb1)
      have E1 := Lib.hid (show Blk w1 (w.heap.size + 1) #[.int .i64 m, .int .i64 e] 24 from ((Blk.new' (by simp) _ _).alloc _).later hb1)
      have E2 := Lib.hid (show Blk w1 (w.heap.size + 1 + 1) #[.int .i64 0, .int .i64 0] 24 from (Blk.new' (by simp) _ _).later hb1)
      have HB := Lib.hid (bw_call (bw_alloc (bw_alloc (bw_alloc (bw_refl w) _) _) _) hb1)
      clear hb1
      have q00 := E0.out.cell 0 rfl
      have q01 := E0.out.cell 1 rfl
      have q10 := E1.out.cell 0 rfl
      have q11 := E1.out.cell 1 rfl
      go_wp2_with fail
      refine (l01FIs_any m e _).mono ?_
      rw [hv2]
      rintro r w2 ⟨rfl, hb2⟩
      have F0 := Lib.hid (E0.out.later hb2)
      have F1 := Lib.hid (E1.out.later hb2)
      have F2 := Lib.hid (E2.out.later hb2)
      have HB2 := Lib.hid (bw_call HB.out hb2)
      clear hb2 q00 q01 q10 q11 E0 E1 HB E2
      have q00 := F0.out.cell 0 rfl
      have q01 := F0.out.cell 1 rfl
      have q10 := F1.out.cell 0 rfl
      have q11 := F1.out.cell 1 rfl
      have g0 := F2.out.cell 0 rfl
      have g1 := F2.out.cell 1 rfl
      have e0 := F2.out.free 0
      have e1 := F2.out.free 1
      go_wp2
      refine bodyPost_ret (v := .tuple #[.agg #[.int .i64 0, .int .i64 0], .bool false]) (by simp [results, Try.results15, go_sem, g0, g1]) rfl ⟨by rw [H0.out.1, H0.out.2.1, H0.out.2.2], ?_⟩
      exact bw_setCell (bw_setCell HB2.out (by simp <;> omega) _) (by simp <;> omega) _
    | true =>
      by_cases hm : m = 0
      · have H0 : Hid (dvB n d m e = false ∧ dvP n d m e = 0 ∧ dvQ n d m e = 0) := Lib.hid (div_none (.inl hm))
        have hz : (m == 0) = true := by rw [hm]; rfl
        clear hm
        go_enter Try.func15, Try.ntmps15
        go_wp2_with fail
        refine (l01FIs_any n d _).mono ?_
        rw [hv1]
        rintro r w1 ⟨rfl, hb1⟩
        have E0 := Lib.hid (show Blk w1 w.heap.size #[.int .i64 n, .int .i64 d] 24 from (((Blk.new w _ _).alloc _).alloc _).later hb1)
        have E1 := Lib.hid (show Blk w1 (w.heap.size + 1) #[.int .i64 m, .int .i64 e] 24 from ((Blk.new' (by simp) _ _).alloc _).later hb1)
        have E2 := Lib.hid (show Blk w1 (w.heap.size + 1 + 1) #[.int .i64 0, .int .i64 0] 24 from (Blk.new' (by simp) _ _).later hb1)
        have HB := Lib.hid (bw_call (bw_alloc (bw_alloc (bw_alloc (bw_refl w) _) _) _) hb1)
        clear hb1
        have q00 := E0.out.cell 0 rfl
        have q01 := E0.out.cell 1 rfl
        have q10 := E1.out.cell 0 rfl
        have q11 := E1.out.cell 1 rfl
        go_wp2_with fail
        refine (l01FIs_any m e _).mono ?_
        rw [hv2]
        rintro r w2 ⟨rfl, hb2⟩
        have F0 := Lib.hid (E0.out.later hb2)
        have F1 := Lib.hid (E1.out.later hb2)
        have F2 := Lib.hid (E2.out.later hb2)
        have HB2 := Lib.hid (bw_call HB.out hb2)
        clear hb2 q00 q01 q10 q11 E0 E1 HB E2
        have q00 := F0.out.cell 0 rfl
        have q01 := F0.out.cell 1 rfl
        have q10 := F1.out.cell 0 rfl
        have q11 := F1.out.cell 1 rfl
        have g0 := F2.out.cell 0 rfl
        have g1 := F2.out.cell 1 rfl
        have e0 := F2.out.free 0
        have e1 := F2.out.free 1
        go_wp2
        refine bodyPost_ret (v := .tuple #[.agg #[.int .i64 0, .int .i64 0], .bool false]) (by simp [results, Try.results15, go_sem, g0, g1]) rfl ⟨by rw [H0.out.1, H0.out.2.1, H0.out.2.2], ?_⟩
        exact bw_setCell (bw_setCell HB2.out (by simp <;> omega) _) (by simp <;> omega) _
      · obtain ⟨v1, v2, v3⟩ := vfB_true hv1
        obtain ⟨u1, u2, u3⟩ := vfB_true hv2
        have HS := Lib.hid (div_some hv1 hv2 hm)
        have HV := Lib.hid (fm_flip hv2 hm).2.2
        have hz : (m == 0) = false := beq_eq_false_iff_ne.2 hm
        obtain ⟨m', hm'⟩ : ∃ x, Hid (fmN e m = x) := ⟨_, Lib.hid rfl⟩
        obtain ⟨e', he'⟩ : ∃ x, Hid (fmD e m = x) := ⟨_, Lib.hid rfl⟩
        rw [hm'.out, he'.out] at HS HV
        obtain ⟨p, hp⟩ : ∃ p, Hid (dvP n d m e = p) := ⟨_, Lib.hid rfl⟩
        obtain ⟨q, hq⟩ : ∃ p, Hid (dvQ n d m e = p) := ⟨_, Lib.hid rfl⟩
        obtain ⟨b, hb⟩ : ∃ p, Hid (dvB n d m e = p) := ⟨_, Lib.hid rfl⟩
        rw [hp.out, hq.out, hb.out] at HS
        clear v3 u3
        go_enter Try.func15, Try.ntmps15
        go_wp2_with fail
        refine (l01FIs_any n d _).mono ?_
        rw [hv1]
        rintro r w1 ⟨rfl, hb1⟩
        have E0 := Lib.hid (show Blk w1 w.heap.size #[.int .i64 n, .int .i64 d] 24 from (((Blk.new w _ _).alloc _).alloc _).later hb1)
        have E1 := Lib.hid (show Blk w1 (w.heap.size + 1) #[.int .i64 m, .int .i64 e] 24 from ((Blk.new' (by simp) _ _).alloc _).later hb1)
        have E2 := Lib.hid (show Blk w1 (w.heap.size + 1 + 1) #[.int .i64 0, .int .i64 0] 24 from (Blk.new' (by simp) _ _).later hb1)
        have HB := Lib.hid (bw_call (bw_alloc (bw_alloc (bw_alloc (bw_refl w) _) _) _) hb1)
        clear hb1
        have q00 := E0.out.cell 0 rfl
        have q01 := E0.out.cell 1 rfl
        have q10 := E1.out.cell 0 rfl
        have q11 := E1.out.cell 1 rfl
        go_wp2_with fail
        refine (l01FIs_any m e _).mono ?_
        rw [hv2]
        rintro r w2 ⟨rfl, hb2⟩
        have F0 := Lib.hid (E0.out.later hb2)
        have F1 := Lib.hid (E1.out.later hb2)
        have F2 := Lib.hid (E2.out.later hb2)
        have HB2 := Lib.hid (bw_call HB.out hb2)
        clear hb2 q00 q01 q10 q11 E0 E1 HB E2
        have q00 := F0.out.cell 0 rfl
        have q01 := F0.out.cell 1 rfl
        have q10 := F1.out.cell 0 rfl
        have q11 := F1.out.cell 1 rfl
        have n02 : ¬ w.heap.size = w.heap.size + 1 + 1 := by omega
        have n20 : ¬ w.heap.size + 1 + 1 = w.heap.size := by omega
        have n12 : ¬ w.heap.size + 1 = w.heap.size + 1 + 1 := by omega
        have n21 : ¬ w.heap.size + 1 + 1 = w.heap.size + 1 := by omega
        have HFM : Hid (∀ W, Calls Try.prog 34 #[.int .i64 e, .int .i64 m] W fun r w' => r = .returned (.agg #[.int .i64 m', .int .i64 e']) ∧ Below W.heap.size W w') := Lib.hid (fun W => by rw [← hm'.out, ← he'.out]; exact l01FMake_any e m W (by omega) u2 hm)
        have HMU : Hid (∀ W, Calls Try.prog 27 #[.agg #[.int .i64 n, .int .i64 d], .agg #[.int .i64 m', .int .i64 e']] W fun r w' => r = .returned (.tuple #[.agg #[.int .i64 p, .int .i64 q], .bool b]) ∧ Below W.heap.size W w') := Lib.hid (fun W => by rw [← HS.out.1, ← HS.out.2.1, ← HS.out.2.2]; exact l01FMul_any n d m' e' W hv1 HV.out)
        go_wp2_with fail
        go_region_held3 (fun w' => w'.cell? ⟨w.heap.size, 0, none⟩ = some (.int .i64 n) ∧ w'.cell? ⟨w.heap.size, 1, none⟩ = some (.int .i64 d) ∧ w'.cell? ⟨w.heap.size + 1, 0, none⟩ = some (.int .i64 m) ∧ w'.cell? ⟨w.heap.size + 1, 1, none⟩ = some (.int .i64 e)) (go_keep)
          (first
            | (go_at_call 34; refine (HFM.out _).mono ?_; rintro r w3 ⟨rfl, hb3⟩
               have G0 := F0.out.drew.later hb3; have G1 := F1.out.drew.later hb3; have G2 := F2.out.drew.later hb3
               have HB3 := bw_call (bw_drew HB2.out) hb3
               have q30 := G0.cell 0 rfl; have q31 := G0.cell 1 rfl; have q32 := G1.cell 0 rfl; have q33 := G1.cell 1 rfl)
            | (go_at_call 27; refine (HMU.out _).mono ?_; rintro r w4 ⟨rfl, hb4⟩
               have K0 := G0.later hb4; have K1 := G1.later hb4; have K2 := G2.later hb4
               have HB4 := bw_call HB3 hb4
               have q40 := K0.cell 0 rfl; have q41 := K0.cell 1 rfl; have q42 := K1.cell 0 rfl; have q43 := K1.cell 1 rfl
               have g0 := K2.cell 0 rfl; have g1 := K2.cell 1 rfl; have e0 := K2.free 0; have e1 := K2.free 1))
        have HB5 := Lib.hid HB4
        clear HB4 hb3 hb4 HB3
        go_wp2
        refine bodyPost_ret (v := .tuple #[.agg #[.int .i64 p, .int .i64 q], .bool b]) (by simp [results, Try.results15, go_sem, g0, g1]) rfl ⟨by rw [hp.out, hq.out, hb.out], ?_⟩
        exact bw_setCell (bw_setCell HB5.out (by simp <;> omega) _) (by simp <;> omega) _
end Go.Proofs.Ytcmmcffglmcegaa
