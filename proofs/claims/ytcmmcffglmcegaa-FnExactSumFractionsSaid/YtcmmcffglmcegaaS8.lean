/-
  Contracts of the reference's AddFractions and SubFractions. No condition beyond int64's bounds.
-/
import Derived.Test.YtcmmcffglmcegaaS7
namespace Go.Proofs.Ytcmmcffglmcegaa
open Go.RowKit
set_option linter.unusedVariables false

theorem l01FAdd_any (n d m e : Int) (w : World) (h1 : vfB n d = true) (h2 : vfB m e = true) :
    Calls Try.prog 36 #[.agg #[.int .i64 n, .int .i64 d], .agg #[.int .i64 m, .int .i64 e]] w fun r w' => r = .returned (.tuple #[.agg #[.int .i64 (cmN n d m e (n * e + m * d) (d * e)), .int .i64 (cmD n d m e (n * e + m * d) (d * e))], .bool (cmB n d m e (n * e + m * d) (d * e))]) ∧ Below w.heap.size w w' :=
  l01FAdd_same n d m e w h1 h2 _ _ rfl rfl
theorem vfB_neg (m e : Int) : vfB (-m) e = vfB m e := by
  unfold vfB
  have h1 : absI (-m) = absI m := by unfold absI; omega
  rw [h1]
  have h2 : inR (-m) (-1000000000000000000) 1000000000000000000 = inR m (-1000000000000000000) 1000000000000000000 := by
    by_cases c : -1000000000000000000 ≤ m ∧ m ≤ 1000000000000000000
    · rw [inR_mk c.1 c.2, inR_mk (by omega) (by omega)]
    · have a : inR m (-1000000000000000000) 1000000000000000000 = false := by
        cases h : inR m (-1000000000000000000) 1000000000000000000 with
        | false => rfl
        | true => exact absurd (inR_true h) c
      have b : inR (-m) (-1000000000000000000) 1000000000000000000 = false := by
        cases h : inR (-m) (-1000000000000000000) 1000000000000000000 with
        | false => rfl
        | true => have := inR_true h; omega
      rw [a, b]
  rw [h2]
theorem cm_neg (n d m e : Int) : cmB n d (-m) e (n * e + -m * d) (d * e) = cmB n d m e (n * e - m * d) (d * e) ∧ cmN n d (-m) e (n * e + -m * d) (d * e) = cmN n d m e (n * e - m * d) (d * e) ∧ cmD n d (-m) e (n * e + -m * d) (d * e) = cmD n d m e (n * e - m * d) (d * e) := by
  have h1 : n * e + -m * d = n * e - m * d := by grind
  have h2 : ∀ N D, cmB n d (-m) e N D = cmB n d m e N D := fun N D => by unfold cmB; rw [vfB_neg]
  rw [h1]
  refine ⟨h2 _ _, ?_, ?_⟩
  · unfold cmN; rw [h2]
  · unfold cmD; rw [h2]
set_option maxRecDepth 100000 in
theorem l01FNeg_any (n d : Int) (w : World) (hn : -1000000000000000000 ≤ n ∧ n ≤ 1000000000000000000) :
    Calls Try.prog 38 #[.agg #[.int .i64 n, .int .i64 d]] w fun r w' => r = .returned (.agg #[.int .i64 (-n), .int .i64 d]) ∧ Below w.heap.size w w' := by
  have un : IntKind.i64.wrap (-n) = -n := i64_neg hn
  have n0 : ¬ w.heap.size = w.heap.size + 1 := by omega
  have n1 : ¬ w.heap.size + 1 = w.heap.size := by omega
  have t0 : w.heap.size < w.heap.size + 1 := by omega
  go_enter Try.func38, Try.ntmps38
  go_wp2
  refine bodyPost_ret (v := .agg #[.int .i64 (-n), .int .i64 d]) (by simp [results, Try.results38, go_sem]) rfl ⟨rfl, bw_alloc (bw_alloc (bw_refl w) _) _⟩
set_option maxRecDepth 100000 in
theorem sAddFractions_any (n d m e : Int) (w : World) :
    Calls Try.prog 17 #[.agg #[.int .i64 n, .int .i64 d], .agg #[.int .i64 m, .int .i64 e]] w fun r w' => r = .returned (.tuple #[.agg #[.int .i64 (cmN n d m e (n * e + m * d) (d * e)), .int .i64 (cmD n d m e (n * e + m * d) (d * e))], .bool (cmB n d m e (n * e + m * d) (d * e))]) ∧ Below w.heap.size w w' := by
  cases hv1 : vfB n d with
  | false =>
    have H0 : Hid (cmB n d m e (n * e + m * d) (d * e) = false ∧ cmN n d m e (n * e + m * d) (d * e) = 0 ∧ cmD n d m e (n * e + m * d) (d * e) = 0) := Lib.hid (by unfold cmN cmD cmB; rw [hv1]; simp)
    go_enter Try.func17, Try.ntmps17
    go_wp2_with fail
    refine (l01FIs_any n d _).mono ?_
    rw [hv1]
    rintro r w1 ⟨rfl, hb1⟩
    have E0 := Lib.hid (show Blk w1 w.heap.size #[.int .i64 n, .int .i64 d] 24 from (((Blk.new w _ _).alloc _).alloc _).later hb1)
    have E1 := Lib.hid (show Blk w1 (w.heap.size + 1) #[.int .i64 m, .int .i64 e] 24 from ((Blk.new' (by simp) _ _).alloc _).later hb1)
    have E2 := Lib.hid (show Blk w1 (w.heap.size + 1 + 1) #[.int .i64 0, .int .i64 0] 24 from (Blk.new' (by simp) _ _).later hb1)
    have HB := Lib.hid (bw_call (bw_alloc (bw_alloc (bw_alloc (bw_refl w) _) _) _) hb1)
    clear hb1
    have q00 := E0.out.cell 0 rfl
    have q01 := E0.out.cell 1 rfl
    have q10 := E1.out.cell 0 rfl
    have q11 := E1.out.cell 1 rfl
    have g0 := E2.out.cell 0 rfl
    have g1 := E2.out.cell 1 rfl
    have e0 := E2.out.free 0
    have e1 := E2.out.free 1
    go_wp2
    refine bodyPost_ret (v := .tuple #[.agg #[.int .i64 0, .int .i64 0], .bool false]) (by simp [results, Try.results17, go_sem, g0, g1]) rfl ⟨by rw [H0.out.1, H0.out.2.1, H0.out.2.2], ?_⟩
    exact bw_setCell (bw_setCell HB.out (by simp <;> omega) _) (by simp <;> omega) _
  | true =>
    cases hv2 : vfB m e with
    | false =>
      have H0 : Hid (cmB n d m e (n * e + m * d) (d * e) = false ∧ cmN n d m e (n * e + m * d) (d * e) = 0 ∧ cmD n d m e (n * e + m * d) (d * e) = 0) := Lib.hid (by unfold cmN cmD cmB; rw [hv2]; simp)
      go_enter Try.func17, Try.ntmps17
      go_wp2_with fail
      refine (l01FIs_any n d _).mono ?_
      rw [hv1]
      rintro r w1 ⟨rfl, hb1⟩
      have E0 := Lib.hid (show Blk w1 w.heap.size #[.int .i64 n, .int .i64 d] 24 from (((Blk.new w _ _).alloc _).alloc _).later hb1)
      have E1 := Lib.hid (show Blk w1 (w.heap.size + 1) #[.int .i64 m, .int .i64 e] 24 from ((Blk.new' (by simp) _ _).alloc _).later hb1)
      have E2 := Lib.hid (show Blk w1 (w.heap.size + 1 + 1) #[.int .i64 0, .int .i64 0] 24 from (Blk.new' (by simp) _ _).later hb1)
      have HB := Lib.hid (bw_call (bw_alloc (bw_alloc (bw_alloc (bw_refl w) _) _) _) hb1)
      clear hb1
      have q00 := E0.out.cell 0 rfl
      have q01 := E0.out.cell 1 rfl
      have q10 := E1.out.cell 0 rfl
      have q11 := E1.out.cell 1 rfl
      go_wp2_with fail
      refine (l01FIs_any m e _).mono ?_
      rw [hv2]
      rintro r w2 ⟨rfl, hb2⟩
      have F0 := Lib.hid (E0.out.later hb2)
      have F1 := Lib.hid (E1.out.later hb2)
      have F2 := Lib.hid (E2.out.later hb2)
      have HB2 := Lib.hid (bw_call HB.out hb2)
      clear hb2 q00 q01 q10 q11 E0 E1 HB E2
      have q00 := F0.out.cell 0 rfl
      have q01 := F0.out.cell 1 rfl
      have q10 := F1.out.cell 0 rfl
      have q11 := F1.out.cell 1 rfl
      have g0 := F2.out.cell 0 rfl
      have g1 := F2.out.cell 1 rfl
      have e0 := F2.out.free 0
      have e1 := F2.out.free 1
      go_wp2
      refine bodyPost_ret (v := .tuple #[.agg #[.int .i64 0, .int .i64 0], .bool false]) (by simp [results, Try.results17, go_sem, g0, g1]) rfl ⟨by rw [H0.out.1, H0.out.2.1, H0.out.2.2], ?_⟩
      exact bw_setCell (bw_setCell HB2.out (by simp <;> omega) _) (by simp <;> omega) _
    | true =>
      obtain ⟨p, hp⟩ : ∃ p, Hid (cmN n d m e (n * e + m * d) (d * e) = p) := ⟨_, Lib.hid rfl⟩
      obtain ⟨q, hq⟩ : ∃ p, Hid (cmD n d m e (n * e + m * d) (d * e) = p) := ⟨_, Lib.hid rfl⟩
      obtain ⟨b, hb⟩ : ∃ p, Hid (cmB n d m e (n * e + m * d) (d * e) = p) := ⟨_, Lib.hid rfl⟩
      go_enter Try.func17, Try.ntmps17
      go_wp2_with fail
      refine (l01FIs_any n d _).mono ?_
      rw [hv1]
      rintro r w1 ⟨rfl, hb1⟩
      have E0 := Lib.hid (show Blk w1 w.heap.size #[.int .i64 n, .int .i64 d] 24 from (((Blk.new w _ _).alloc _).alloc _).later hb1)
      have E1 := Lib.hid (show Blk w1 (w.heap.size + 1) #[.int .i64 m, .int .i64 e] 24 from ((Blk.new' (by simp) _ _).alloc _).later hb1)
      have E2 := Lib.hid (show Blk w1 (w.heap.size + 1 + 1) #[.int .i64 0, .int .i64 0] 24 from (Blk.new' (by simp) _ _).later hb1)
      have HB := Lib.hid (bw_call (bw_alloc (bw_alloc (bw_alloc (bw_refl w) _) _) _) hb1)
      clear hb1
      have q00 := E0.out.cell 0 rfl
      have q01 := E0.out.cell 1 rfl
      have q10 := E1.out.cell 0 rfl
      have q11 := E1.out.cell 1 rfl
      go_wp2_with fail
      refine (l01FIs_any m e _).mono ?_
      rw [hv2]
      rintro r w2 ⟨rfl, hb2⟩
      have F0 := Lib.hid (E0.out.later hb2)
      have F1 := Lib.hid (E1.out.later hb2)
      have F2 := Lib.hid (E2.out.later hb2)
      have HB2 := Lib.hid (bw_call HB.out hb2)
      clear hb2 q00 q01 q10 q11 E0 E1 HB E2
      have q00 := F0.out.cell 0 rfl
      have q01 := F0.out.cell 1 rfl
      have q10 := F1.out.cell 0 rfl
      have q11 := F1.out.cell 1 rfl
      go_wp2_with fail
      refine (l01FAdd_any n d m e _ hv1 hv2).mono ?_
      rw [hp.out, hq.out, hb.out]
      rintro r w3 ⟨rfl, hb3⟩
      have G2 := Lib.hid (F2.out.later hb3)
      have HB3 := Lib.hid (bw_call HB2.out hb3)
      clear hb3
      have g0 := G2.out.cell 0 rfl
      have g1 := G2.out.cell 1 rfl
      have e0 := G2.out.free 0
      have e1 := G2.out.free 1
      go_wp2
      refine bodyPost_ret (v := .tuple #[.agg #[.int .i64 p, .int .i64 q], .bool b]) (by simp [results, Try.results17, go_sem, g0, g1]) rfl ⟨by rw [hp.out, hq.out, hb.out], ?_⟩
      exact bw_setCell (bw_setCell HB3.out (by simp <;> omega) _) (by simp <;> omega) _
set_option maxRecDepth 100000 in
theorem sSubFractions_any (n d m e : Int) (w : World) :
    Calls Try.prog 19 #[.agg #[.int .i64 n, .int .i64 d], .agg #[.int .i64 m, .int .i64 e]] w fun r w' => r = .returned (.tuple #[.agg #[.int .i64 (cmN n d m e (n * e - m * d) (d * e)), .int .i64 (cmD n d m e (n * e - m * d) (d * e))], .bool (cmB n d m e (n * e - m * d) (d * e))]) ∧ Below w.heap.size w w' := by
  cases hv1 : vfB n d with
  | false =>
    have H0 : Hid (cmB n d m e (n * e - m * d) (d * e) = false ∧ cmN n d m e (n * e - m * d) (d * e) = 0 ∧ cmD n d m e (n * e - m * d) (d * e) = 0) := Lib.hid (by unfold cmN cmD cmB; rw [hv1]; simp)
    go_enter Try.func19, Try.ntmps19
    go_wp2_with fail
    refine (l01FIs_any n d _).mono ?_
    rw [hv1]
    rintro r w1 ⟨rfl, hb1⟩
    have E0 := Lib.hid (show Blk w1 w.heap.size #[.int .i64 n, .int .i64 d] 24 from (((Blk.new w _ _).alloc _).alloc _).later hb1)
    have E1 := Lib.hid (show Blk w1 (w.heap.size + 1) #[.int .i64 m, .int .i64 e] 24 from ((Blk.new' (by simp) _ _).alloc _).later hb1)
    have E2 := Lib.hid (show Blk w1 (w.heap.size + 1 + 1) #[.int .i64 0, .int .i64 0] 24 from (Blk.new' (by simp) _ _).later hb1)
    have HB := Lib.hid (bw_call (bw_alloc (bw_alloc (bw_alloc (bw_refl w) _) _) _) hb1)
    clear hb1
    have q00 := E0.out.cell 0 rfl
    have q01 := E0.out.cell 1 rfl
    have q10 := E1.out.cell 0 rfl
    have q11 := E1.out.cell 1 rfl
    have g0 := E2.out.cell 0 rfl
    have g1 := E2.out.cell 1 rfl
    have e0 := E2.out.free 0
    have e1 := E2.out.free 1
    go_wp2
    refine bodyPost_ret (v := .tuple #[.agg #[.int .i64 0, .int .i64 0], .bool false]) (by simp [results, Try.results19, go_sem, g0, g1]) rfl ⟨by rw [H0.out.1, H0.out.2.1, H0.out.2.2], ?_⟩
    exact bw_setCell (bw_setCell HB.out (by simp <;> omega) _) (by simp <;> omega) _
  | true =>
    cases hv2 : vfB m e with
    | false =>
      have H0 : Hid (cmB n d m e (n * e - m * d) (d * e) = false ∧ cmN n d m e (n * e - m * d) (d * e) = 0 ∧ cmD n d m e (n * e - m * d) (d * e) = 0) := Lib.hid (by unfold cmN cmD cmB; rw [hv2]; simp)
      go_enter Try.func19, Try.ntmps19
      go_wp2_with fail
      refine (l01FIs_any n d _).mono ?_
      rw [hv1]
      rintro r w1 ⟨rfl, hb1⟩
      have E0 := Lib.hid (show Blk w1 w.heap.size #[.int .i64 n, .int .i64 d] 24 from (((Blk.new w _ _).alloc _).alloc _).later hb1)
      have E1 := Lib.hid (show Blk w1 (w.heap.size + 1) #[.int .i64 m, .int .i64 e] 24 from ((Blk.new' (by simp) _ _).alloc _).later hb1)
      have E2 := Lib.hid (show Blk w1 (w.heap.size + 1 + 1) #[.int .i64 0, .int .i64 0] 24 from (Blk.new' (by simp) _ _).later hb1)
      have HB := Lib.hid (bw_call (bw_alloc (bw_alloc (bw_alloc (bw_refl w) _) _) _) hb1)
      clear hb1
      have q00 := E0.out.cell 0 rfl
      have q01 := E0.out.cell 1 rfl
      have q10 := E1.out.cell 0 rfl
      have q11 := E1.out.cell 1 rfl
      go_wp2_with fail
      refine (l01FIs_any m e _).mono ?_
      rw [hv2]
      rintro r w2 ⟨rfl, hb2⟩
      have F0 := Lib.hid (E0.out.later hb2)
      have F1 := Lib.hid (E1.out.later hb2)
      have F2 := Lib.hid (E2.out.later hb2)
      have HB2 := Lib.hid (bw_call HB.out hb2)
      clear hb2 q00 q01 q10 q11 E0 E1 HB E2
      have q00 := F0.out.cell 0 rfl
      have q01 := F0.out.cell 1 rfl
      have q10 := F1.out.cell 0 rfl
      have q11 := F1.out.cell 1 rfl
      have g0 := F2.out.cell 0 rfl
      have g1 := F2.out.cell 1 rfl
      have e0 := F2.out.free 0
      have e1 := F2.out.free 1
      go_wp2
      refine bodyPost_ret (v := .tuple #[.agg #[.int .i64 0, .int .i64 0], .bool false]) (by simp [results, Try.results19, go_sem, g0, g1]) rfl ⟨by rw [H0.out.1, H0.out.2.1, H0.out.2.2], ?_⟩
      exact bw_setCell (bw_setCell HB2.out (by simp <;> omega) _) (by simp <;> omega) _
    | true =>
      obtain ⟨v1, v2, v3⟩ := vfB_true hv1
      obtain ⟨u1, u2, u3⟩ := vfB_true hv2
      obtain ⟨p, hp⟩ : ∃ p, Hid (cmN n d m e (n * e - m * d) (d * e) = p) := ⟨_, Lib.hid rfl⟩
      obtain ⟨q, hq⟩ : ∃ p, Hid (cmD n d m e (n * e - m * d) (d * e) = p) := ⟨_, Lib.hid rfl⟩
      obtain ⟨b, hb⟩ : ∃ p, Hid (cmB n d m e (n * e - m * d) (d * e) = p) := ⟨_, Lib.hid rfl⟩
      have HC := Lib.hid (cm_neg n d m e)
      have HV : Hid (vfB (-m) e = true) := Lib.hid (by rw [vfB_neg]; exact hv2)
      obtain ⟨m', hm'⟩ : ∃ x, Hid (-m = x) := ⟨_, Lib.hid rfl⟩
      rw [hp.out, hq.out, hb.out, hm'.out] at HC
      rw [hm'.out] at HV
      clear v3 u3
      go_enter Try.func19, Try.ntmps19
      go_wp2_with fail
      refine (l01FIs_any n d _).mono ?_
      rw [hv1]
      rintro r w1 ⟨rfl, hb1⟩
      have E0 := Lib.hid (show Blk w1 w.heap.size #[.int .i64 n, .int .i64 d] 24 from (((Blk.new w _ _).alloc _).alloc _).later hb1)
      have E1 := Lib.hid (show Blk w1 (w.heap.size + 1) #[.int .i64 m, .int .i64 e] 24 from ((Blk.new' (by simp) _ _).alloc _).later hb1)
      have E2 := Lib.hid (show Blk w1 (w.heap.size + 1 + 1) #[.int .i64 0, .int .i64 0] 24 from (Blk.new' (by simp) _ _).later hb1)
      have HB := Lib.hid (bw_call (bw_alloc (bw_alloc (bw_alloc (bw_refl w) _) _) _) hb1)
      clear hb1
      have q00 := E0.out.cell 0 rfl
      have q01 := E0.out.cell 1 rfl
      have q10 := E1.out.cell 0 rfl
      have q11 := E1.out.cell 1 rfl
      go_wp2_with fail
      refine (l01FIs_any m e _).mono ?_
      rw [hv2]
      rintro r w2 ⟨rfl, hb2⟩
      have F0 := Lib.hid (E0.out.later hb2)
      have F1 := Lib.hid (E1.out.later hb2)
      have F2 := Lib.hid (E2.out.later hb2)
      have HB2 := Lib.hid (bw_call HB.out hb2)
      clear hb2 q00 q01 q10 q11 E0 E1 HB E2
      have q00 := F0.out.cell 0 rfl
      have q01 := F0.out.cell 1 rfl
      have q10 := F1.out.cell 0 rfl
      have q11 := F1.out.cell 1 rfl
      have n02 : ¬ w.heap.size = w.heap.size + 1 + 1 := by omega
      have n20 : ¬ w.heap.size + 1 + 1 = w.heap.size := by omega
      have n12 : ¬ w.heap.size + 1 = w.heap.size + 1 + 1 := by omega
      have n21 : ¬ w.heap.size + 1 + 1 = w.heap.size + 1 := by omega
      have HNE : Hid (∀ W, Calls Try.prog 38 #[.agg #[.int .i64 m, .int .i64 e]] W fun r w' => r = .returned (.agg #[.int .i64 m', .int .i64 e]) ∧ Below W.heap.size W w') := Lib.hid (fun W => by rw [← hm'.out]; exact l01FNeg_any m e W u2)
      have HAD : Hid (∀ W, Calls Try.prog 36 #[.agg #[.int .i64 n, .int .i64 d], .agg #[.int .i64 m', .int .i64 e]] W fun r w' => r = .returned (.tuple #[.agg #[.int .i64 p, .int .i64 q], .bool b]) ∧ Below W.heap.size W w') := Lib.hid (fun W => by rw [← HC.out.1, ← HC.out.2.1, ← HC.out.2.2]; exact l01FAdd_any n d m' e W hv1 HV.out)
      go_wp2_with fail
      go_region_held3 (fun w' => w'.cell? ⟨w.heap.size, 0, none⟩ = some (.int .i64 n) ∧ w'.cell? ⟨w.heap.size, 1, none⟩ = some (.int .i64 d) ∧ w'.cell? ⟨w.heap.size + 1, 0, none⟩ = some (.int .i64 m) ∧ w'.cell? ⟨w.heap.size + 1, 1, none⟩ = some (.int .i64 e)) (go_keep)
        (first
          | (go_at_call 38; refine (HNE.out _).mono ?_; rintro r w3 ⟨rfl, hb3⟩
             have G0 := F0.out.drew.later hb3; have G1 := F1.out.drew.later hb3; have G2 := F2.out.drew.later hb3
             have HB3 := bw_call (bw_drew HB2.out) hb3
             have q30 := G0.cell 0 rfl; have q31 := G0.cell 1 rfl; have q32 := G1.cell 0 rfl; have q33 := G1.cell 1 rfl)
          | (go_at_call 36; refine (HAD.out _).mono ?_; rintro r w4 ⟨rfl, hb4⟩
             have K0 := G0.later hb4; have K1 := G1.later hb4; have K2 := G2.later hb4
             have HB4 := bw_call HB3 hb4
             have q40 := K0.cell 0 rfl; have q41 := K0.cell 1 rfl; have q42 := K1.cell 0 rfl; have q43 := K1.cell 1 rfl
             have g0 := K2.cell 0 rfl; have g1 := K2.cell 1 rfl; have e0 := K2.free 0; have e1 := K2.free 1))
      have HB5 := Lib.hid HB4
      clear HB4 hb3 hb4 HB3
      go_wp2
      refine bodyPost_ret (v := .tuple #[.agg #[.int .i64 p, .int .i64 q], .bool b]) (by simp [results, Try.results19, go_sem, g0, g1]) rfl ⟨by rw [hp.out, hq.out, hb.out], ?_⟩
      exact bw_setCell (bw_setCell HB5.out (by simp <;> omega) _) (by simp <;> omega) _
end Go.Proofs.Ytcmmcffglmcegaa
