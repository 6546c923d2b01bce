/-
  Contracts of the reference's MulFractions and CompareFractions. No condition beyond int64's bounds.
-/
import Derived.Test.YtcmmcffglmcegaaS4
namespace Go.Proofs.Ytcmmcffglmcegaa
open Go.RowKit
set_option linter.unusedVariables false

set_option maxRecDepth 100000 in
theorem sMulFractions_any (n d m e : Int) (w : World) :
    Calls Try.prog 9 #[.agg #[.int .i64 n, .int .i64 d], .agg #[.int .i64 m, .int .i64 e]] w fun r w' => r = .returned (.tuple #[.agg #[.int .i64 (cmN n d m e (n * m) (d * e)), .int .i64 (cmD n d m e (n * m) (d * e))], .bool (cmB n d m e (n * m) (d * e))]) ∧ Below w.heap.size w w' := by
  cases hv1 : vfB n d with
  | false =>
    have H0 : Hid (cmB n d m e (n * m) (d * e) = false ∧ cmN n d m e (n * m) (d * e) = 0 ∧ cmD n d m e (n * m) (d * e) = 0) := Lib.hid (by unfold cmN cmD cmB; rw [hv1]; simp)
    go_enter Try.func9, Try.ntmps9
    go_wp2_with fail
    refine (l01FIs_any n d _).mono ?_
    rw [hv1]
    rintro r w1 ⟨rfl, hb1⟩
    have E0 := Lib.hid (show Blk w1 w.heap.size #[.int .i64 n, .int .i64 d] 24 from (((Blk.new w _ _).alloc _).alloc _).later hb1)
    have E1 := Lib.hid (show Blk w1 (w.heap.size + 1) #[.int .i64 m, .int .i64 e] 24 from ((Blk.new' (by simp) _ _).alloc _).later hb1)
    have E2 := Lib.hid (show Blk w1 (w.heap.size + 1 + 1) #[.int .i64 0, .int .i64 0] 24 from (Blk.new' (by simp) _ _).later hb1)
    have HB := Lib.hid (bw_call (bw_alloc (bw_alloc (bw_alloc (bw_refl w) _) _) _) hb1)
    clear hb1
    have q00 := E0.out.cell 0 rfl
    have q01 := E0.out.cell 1 rfl
    have q10 := E1.out.cell 0 rfl
    have q11 := E1.out.cell 1 rfl
    have g0 := E2.out.cell 0 rfl
    have g1 := E2.out.cell 1 rfl
    have e0 := E2.out.free 0
    have e1 := E2.out.free 1
    go_wp2
    refine bodyPost_ret (v := .tuple #[.agg #[.int .i64 0, .int .i64 0], .bool false]) (by simp [results, Try.results9, go_sem, g0, g1]) rfl ⟨by rw [H0.out.1, H0.out.2.1, H0.out.2.2], ?_⟩
    exact bw_setCell (bw_setCell HB.out (by simp <;> omega) _) (by simp <;> omega) _
  | true =>
    cases hv2 : vfB m e with
    | false =>
      have H0 : Hid (cmB n d m e (n * m) (d * e) = false ∧ cmN n d m e (n * m) (d * e) = 0 ∧ cmD n d m e (n * m) (d * e) = 0) := Lib.hid (by unfold cmN cmD cmB; rw [hv2]; simp)
      go_enter Try.func9, Try.ntmps9
      go_wp2_with fail
      refine (l01FIs_any n d _).mono ?_
      rw [hv1]
      rintro r w1 ⟨rfl, hb1⟩
      have E0 := Lib.hid (show Blk w1 w.heap.size #[.int .i64 n, .int .i64 d] 24 from (((Blk.new w _ _).alloc _).alloc _).later hb1)
      have E1 := Lib.hid (show Blk w1 (w.heap.size + 1) #[.int .i64 m, .int .i64 e] 24 from ((Blk.new' (by simp) _ _).alloc _).later hb1)
      have E2 := Lib.hid (show Blk w1 (w.heap.size + 1 + 1) #[.int .i64 0, .int .i64 0] 24 from (Blk.new' (by simp) _ _).later hb1)
      have HB := Lib.hid (bw_call (bw_alloc (bw_alloc (bw_alloc (bw_refl w) _) _) _) hb1)
      clear hb1
      have q00 := E0.out.cell 0 rfl
      have q01 := E0.out.cell 1 rfl
      have q10 := E1.out.cell 0 rfl
      have q11 := E1.out.cell 1 rfl
      go_wp2_with fail
      refine (l01FIs_any m e _).mono ?_
      rw [hv2]
      rintro r w2 ⟨rfl, hb2⟩
      have F0 := Lib.hid (E0.out.later hb2)
      have F1 := Lib.hid (E1.out.later hb2)
      have F2 := Lib.hid (E2.out.later hb2)
      have HB2 := Lib.hid (bw_call HB.out hb2)
      clear hb2 q00 q01 q10 q11 E0 E1 HB E2
      have q00 := F0.out.cell 0 rfl
      have q01 := F0.out.cell 1 rfl
      have q10 := F1.out.cell 0 rfl
      have q11 := F1.out.cell 1 rfl
      have g0 := F2.out.cell 0 rfl
      have g1 := F2.out.cell 1 rfl
      have e0 := F2.out.free 0
      have e1 := F2.out.free 1
      go_wp2
      refine bodyPost_ret (v := .tuple #[.agg #[.int .i64 0, .int .i64 0], .bool false]) (by simp [results, Try.results9, go_sem, g0, g1]) rfl ⟨by rw [H0.out.1, H0.out.2.1, H0.out.2.2], ?_⟩
      exact bw_setCell (bw_setCell HB2.out (by simp <;> omega) _) (by simp <;> omega) _
    | true =>
      obtain ⟨p, hp⟩ : ∃ p, Hid (cmN n d m e (n * m) (d * e) = p) := ⟨_, Lib.hid rfl⟩
      obtain ⟨q, hq⟩ : ∃ p, Hid (cmD n d m e (n * m) (d * e) = p) := ⟨_, Lib.hid rfl⟩
      obtain ⟨b, hb⟩ : ∃ p, Hid (cmB n d m e (n * m) (d * e) = p) := ⟨_, Lib.hid rfl⟩
      go_enter Try.func9, Try.ntmps9
      go_wp2_with fail
      refine (l01FIs_any n d _).mono ?_
      rw [hv1]
      rintro r w1 ⟨rfl, hb1⟩
      have E0 := Lib.hid (show Blk w1 w.heap.size #[.int .i64 n, .int .i64 d] 24 from (((Blk.new w _ _).alloc _).alloc _).later hb1)
      have E1 := Lib.hid (show Blk w1 (w.heap.size + 1) #[.int .i64 m, .int .i64 e] 24 from ((Blk.new' (by simp) _ _).alloc _).later hb1)
      have E2 := Lib.hid (show Blk w1 (w.heap.size + 1 + 1) #[.int .i64 0, .int .i64 0] 24 from (Blk.new' (by simp) _ _).later hb1)
      have HB := Lib.hid (bw_call (bw_alloc (bw_alloc (bw_alloc (bw_refl w) _) _) _) hb1)
      clear hb1
      have q00 := E0.out.cell 0 rfl
      have q01 := E0.out.cell 1 rfl
      have q10 := E1.out.cell 0 rfl
      have q11 := E1.out.cell 1 rfl
      go_wp2_with fail
      refine (l01FIs_any m e _).mono ?_
      rw [hv2]
      rintro r w2 ⟨rfl, hb2⟩
      have F0 := Lib.hid (E0.out.later hb2)
      have F1 := Lib.hid (E1.out.later hb2)
      have F2 := Lib.hid (E2.out.later hb2)
      have HB2 := Lib.hid (bw_call HB.out hb2)
      clear hb2 q00 q01 q10 q11 E0 E1 HB E2
      have q00 := F0.out.cell 0 rfl
      have q01 := F0.out.cell 1 rfl
      have q10 := F1.out.cell 0 rfl
      have q11 := F1.out.cell 1 rfl
      go_wp2_with fail
      refine (l01FMul_any n d m e _ hv1 hv2).mono ?_
      rw [hp.out, hq.out, hb.out]
      rintro r w3 ⟨rfl, hb3⟩
      have G2 := Lib.hid (F2.out.later hb3)
      have HB3 := Lib.hid (bw_call HB2.out hb3)
      clear hb3
      have g0 := G2.out.cell 0 rfl
      have g1 := G2.out.cell 1 rfl
      have e0 := G2.out.free 0
      have e1 := G2.out.free 1
      go_wp2
      refine bodyPost_ret (v := .tuple #[.agg #[.int .i64 p, .int .i64 q], .bool b]) (by simp [results, Try.results9, go_sem, g0, g1]) rfl ⟨by rw [hp.out, hq.out, hb.out], ?_⟩
      exact bw_setCell (bw_setCell HB3.out (by simp <;> omega) _) (by simp <;> omega) _
set_option maxRecDepth 100000 in
theorem sCompareFractions_any (n d m e : Int) (w : World) :
    Calls Try.prog 13 #[.agg #[.int .i64 n, .int .i64 d], .agg #[.int .i64 m, .int .i64 e]] w fun r w' => r = .returned (.tuple #[.int .i64 (cpV n d m e), .bool (cpB n d m e)]) ∧ Below w.heap.size w w' := by
  cases hv1 : vfB n d with
  | false =>
    have H0 : Hid (cpB n d m e = false ∧ cpV n d m e = 0) := Lib.hid (by unfold cpV cpB; rw [hv1]; simp)
    go_enter Try.func13, Try.ntmps13
    go_wp2_with fail
    refine (l01FIs_any n d _).mono ?_
    rw [hv1]
    rintro r w1 ⟨rfl, hb1⟩
    have E0 := Lib.hid (show Blk w1 w.heap.size #[.int .i64 n, .int .i64 d] 24 from ((Blk.new w _ _).alloc _).later hb1)
    have E1 := Lib.hid (show Blk w1 (w.heap.size + 1) #[.int .i64 m, .int .i64 e] 24 from (Blk.new' (by simp) _ _).later hb1)
    have HB := Lib.hid (bw_call (bw_alloc (bw_alloc (bw_refl w) _) _) hb1)
    clear hb1
    have q00 := E0.out.cell 0 rfl
    have q01 := E0.out.cell 1 rfl
    have q10 := E1.out.cell 0 rfl
    have q11 := E1.out.cell 1 rfl
    go_wp2
    go_ret2
    exact ⟨by rw [H0.out.1, H0.out.2]; rfl, HB.out⟩
  | true =>
    cases hv2 : vfB m e with
    | false =>
      have H0 : Hid (cpB n d m e = false ∧ cpV n d m e = 0) := Lib.hid (by unfold cpV cpB; rw [hv2]; simp)
      go_enter Try.func13, Try.ntmps13
      go_wp2_with fail
      refine (l01FIs_any n d _).mono ?_
      rw [hv1]
      rintro r w1 ⟨rfl, hb1⟩
      have E0 := Lib.hid (show Blk w1 w.heap.size #[.int .i64 n, .int .i64 d] 24 from ((Blk.new w _ _).alloc _).later hb1)
      have E1 := Lib.hid (show Blk w1 (w.heap.size + 1) #[.int .i64 m, .int .i64 e] 24 from (Blk.new' (by simp) _ _).later hb1)
      have HB := Lib.hid (bw_call (bw_alloc (bw_alloc (bw_refl w) _) _) hb1)
      clear hb1
      have q00 := E0.out.cell 0 rfl
      have q01 := E0.out.cell 1 rfl
      have q10 := E1.out.cell 0 rfl
      have q11 := E1.out.cell 1 rfl
      go_wp2_with fail
      refine (l01FIs_any m e _).mono ?_
      rw [hv2]
      rintro r w2 ⟨rfl, hb2⟩
      have F0 := Lib.hid (E0.out.later hb2)
      have F1 := Lib.hid (E1.out.later hb2)
      have HB2 := Lib.hid (bw_call HB.out hb2)
      clear hb2 q00 q01 q10 q11 E0 E1 HB
      have q00 := F0.out.cell 0 rfl
      have q01 := F0.out.cell 1 rfl
      have q10 := F1.out.cell 0 rfl
      have q11 := F1.out.cell 1 rfl
      go_wp2
      go_ret2
      exact ⟨by rw [H0.out.1, H0.out.2]; rfl, HB2.out⟩
    | true =>
      have H0 : Hid (cpB n d m e = true ∧ cpV n d m e = sgn (n * e - m * d)) := Lib.hid (by
        have : cpB n d m e = true := by unfold cpB; rw [hv1, hv2]; rfl
        exact ⟨this, by unfold cpV; rw [if_pos this]⟩)
      go_enter Try.func13, Try.ntmps13
      go_wp2_with fail
      refine (l01FIs_any n d _).mono ?_
      rw [hv1]
      rintro r w1 ⟨rfl, hb1⟩
      have E0 := Lib.hid (show Blk w1 w.heap.size #[.int .i64 n, .int .i64 d] 24 from ((Blk.new w _ _).alloc _).later hb1)
      have E1 := Lib.hid (show Blk w1 (w.heap.size + 1) #[.int .i64 m, .int .i64 e] 24 from (Blk.new' (by simp) _ _).later hb1)
      have HB := Lib.hid (bw_call (bw_alloc (bw_alloc (bw_refl w) _) _) hb1)
      clear hb1
      have q00 := E0.out.cell 0 rfl
      have q01 := E0.out.cell 1 rfl
      have q10 := E1.out.cell 0 rfl
      have q11 := E1.out.cell 1 rfl
      go_wp2_with fail
      refine (l01FIs_any m e _).mono ?_
      rw [hv2]
      rintro r w2 ⟨rfl, hb2⟩
      have F0 := Lib.hid (E0.out.later hb2)
      have F1 := Lib.hid (E1.out.later hb2)
      have HB2 := Lib.hid (bw_call HB.out hb2)
      clear hb2 q00 q01 q10 q11 E0 E1 HB
      have q00 := F0.out.cell 0 rfl
      have q01 := F0.out.cell 1 rfl
      have q10 := F1.out.cell 0 rfl
      have q11 := F1.out.cell 1 rfl
      go_wp2_with fail
      refine (l01FCmp_any n d m e _ hv1 hv2).mono ?_
      rintro r w3 ⟨rfl, hb3⟩
      have HB3 := Lib.hid (bw_call HB2.out hb3)
      clear hb3
      go_wp2
      go_ret2
      exact ⟨by rw [H0.out.1, H0.out.2]; rfl, HB3.out⟩
end Go.Proofs.Ytcmmcffglmcegaa
