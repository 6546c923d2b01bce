/-
  Contract of l03DrawOk. Conditions: the code is a row of bytes that came in.
-/
import Derived.Test.YthkgaldpajnjgaaC26
import Derived.Test.YthkgaldpajnjgaaC11
namespace Go.Proofs.Ythkgaldpajnjgaa
open Go.RowKit
set_option linter.unusedVariables false

theorem Blk.kept {w w' : World} {b p : Nat} {cs : Array Value} {t : TypeId} (h : Blk w b cs t) (hf : FarI p (p + 1) w w') (hne : b ≠ p) : Blk w' b cs t := (hf.block b h.lt (by omega)).trans h
set_option maxRecDepth 100000 in
set_option maxHeartbeats 1000000 in
theorem l03DrawOk_any (p B : Nat) (a : Option Addr) (len cap : Nat) (zs : List Int) (t : Nat) (seed : Int) (w : World) (hs : SrcAt w p a len cap t seed) (hc : CodeAt w B a len cap zs) (hB : B ≤ p) (ht : t ≤ 10000000000) :
    Calls Try.prog 11 #[.pointer (some ⟨p, 0, none⟩)] w fun e w' => ∃ (m f c seed' : Int) (t' : Nat), e = .returned (.agg #[.int .i64 m, .int .i64 f, .int .i64 c]) ∧ vcB m f c = true ∧ t' ≤ t + 20 ∧ SrcAt w' p a len cap t' seed' ∧ FarI p (p + 1) w w' := by
  have lp := Blk.lt hs
  obtain ⟨o, ho⟩ : ∃ o, Obj.cells #[Value.int .i64 0, Value.int .i64 0, Value.int .i64 0] 25 = o := ⟨_, rfl⟩
  have S0 := Lib.hid (Blk.alloc hs (.cells (cgr 0 0 0) 25))
  have C0 := Lib.hid (hc.kept (w' := w.alloc (.cells (cgr 0 0 0) 25)) (by simp) fun k hk => Below.heap_alloc w _ k (by have := hc.2.1; omega))
  have F0 := Lib.hid ((FarI.refl p (p + 1) w).alloc (.cells (cgr 0 0 0) 25))
  have Q0 := Lib.hid (Blk.new w (cgr 0 0 0) 25)
  clear hs hc ho
  go_enter Try.func11, Try.ntmps11
  go_wp2_with fail
  refine (pick_any 60 p B a len cap zs _ _ _ S0.out C0.out hB (by omega) (by decide) (by decide)).mono ?_
  rintro e w1 ⟨x, s1, t1, rfl, x01, x11, hs1', hsr, hfr⟩
  have S1 := Lib.hid hsr
  have C1 := Lib.hid (C0.out.far hfr hB)
  have F1 := Lib.hid (F0.out.trans hfr)
  have Q1 := Lib.hid (Q0.out.kept hfr (by omega))
  clear hsr hfr
  go_wp2_with fail
  refine (pick_any 8 p B a len cap zs _ _ _ S1.out C1.out hB (by omega) (by decide) (by decide)).mono ?_
  rintro e w2 ⟨y, s2, t2, rfl, x02, x12, hs2', hsr, hfr⟩
  have S2 := Lib.hid hsr
  have C2 := Lib.hid (C1.out.far hfr hB)
  have F2 := Lib.hid (F1.out.trans hfr)
  have Q2 := Lib.hid (Q1.out.kept hfr (by omega))
  clear hsr hfr
  by_cases y0 : y = 0
  · subst y0
    go_wp2_with fail
    refine (pick_any 4000 p B a len cap zs _ _ _ S2.out C2.out hB (by omega) (by decide) (by decide)).mono ?_
    rintro e w3 ⟨z, s3, t3, rfl, x03, x13, hs3', hsr, hfr⟩
    have S3 := Lib.hid hsr
    have C3 := Lib.hid (C2.out.far hfr hB)
    have F3 := Lib.hid (F2.out.trans hfr)
    have Q3 := Lib.hid (Q2.out.kept hfr (by omega))
    clear hsr hfr
    have m2 : 2 ≤ 2 + z ∧ 2 + z ≤ 4001 := by omega
    go_wp2_with fail
    obtain ⟨m, hm⟩ : ∃ m, 2 + z = m := ⟨_, rfl⟩
    rw [hm] at m2 ⊢
    clear hm
    refine (pick_any m p B a len cap zs _ _ _ S3.out C3.out hB (by omega) (by omega) (by omega)).mono ?_
    rintro e w7 ⟨f, s7, t7, rfl, x07, x17, hs7', hsr, hfr⟩
    have S7 := Lib.hid hsr
    have C7 := Lib.hid (C3.out.far hfr hB)
    have F7 := Lib.hid (F3.out.trans hfr)
    have Q7 := Lib.hid (Q3.out.kept hfr (by omega))
    clear hsr hfr
    go_wp2_with fail
    have S8 := Lib.hid (Blk.alloc S7.out (.cells (cgr m f 0) 25))
    have C8 := Lib.hid (C7.out.kept (w' := w7.alloc (.cells (cgr m f 0) 25)) (by simp) fun k hk => Below.heap_alloc w7 _ k (by have := C7.out.2.1; omega))
    have F8 := Lib.hid (F7.out.alloc (.cells (cgr m f 0) 25))
    have Q8 := Lib.hid (Q7.out.alloc (.cells (cgr m f 0) 25))
    have R8 := Lib.hid (Blk.new w7 (cgr m f 0) 25)
    have lq := Q7.out.lt
    have lp7 := Blk.lt S7.out
    have l7 := F7.out.size
    obtain ⟨r, hr⟩ : ∃ r, w7.heap.size = r := ⟨_, rfl⟩
    obtain ⟨q, hq⟩ : ∃ r, w.heap.size = r := ⟨_, rfl⟩
    rw [hr] at R8 lq lp7 l7 ⊢
    rw [hq] at Q8 lq lp l7
    refine (pick_any m p B a len cap zs _ _ _ S8.out C8.out hB (by omega) (by omega) (by omega)).mono ?_
    rintro e w9 ⟨c, s9, t9, rfl, x09, x19, hs9', hsr, hfr⟩
    have S9 := Lib.hid hsr
    have C9 := Lib.hid (C8.out.far hfr hB)
    have F9 := Lib.hid (F8.out.trans hfr)
    have Q9 := Lib.hid (Q8.out.kept hfr (by omega))
    have R9 := Lib.hid (R8.out.kept hfr (by omega))
    clear hsr hfr
    obtain ⟨d0, d1, d2, e0, e1, e2⟩ := cgr_cells R9.out
    go_wp2_with fail
    clear d0 d1 d2 e0 e1 e2
    have S10 := Lib.hid (Blk.far S9.out (a := ⟨r, 2, none⟩) (by simp only; omega) (.int .i64 c))
    have C10 := Lib.hid (C9.out.kept (w' := w9.setCell ⟨r, 2, none⟩ (.int .i64 c)) (by simp [World.setCell]) fun k hk => Below.heap_setCell w9 ⟨r, 2, none⟩ _ k (by simp only; omega))
    have F10 := Lib.hid (F9.out.setNew (b := r) (by omega) 2 (.int .i64 c))
    have Q10 := Lib.hid (Q9.out.far (a := ⟨r, 2, none⟩) (by simp only; omega) (.int .i64 c))
    have R10 : Hid (Blk (w9.setCell ⟨r, 2, none⟩ (.int .i64 c)) r (cgr m f c) 25) := Lib.hid (R9.out.set 2 (.int .i64 c))
    refine (one_any 4 p B a len cap zs _ _ _ S10.out C10.out hB (by omega) (by decide) (by decide)).mono ?_
    rintro e w11 ⟨bb, s11, t11, rfl, hs11', hsr, hfr⟩
    have S11 := Lib.hid hsr
    have C11 := Lib.hid (C10.out.far hfr hB)
    have F11 := Lib.hid (F10.out.trans hfr)
    have Q11 := Lib.hid (Q10.out.kept hfr (by omega))
    have R11 := Lib.hid (R10.out.kept hfr (by omega))
    clear hsr hfr
    cases bb with
    | false =>
      obtain ⟨g0, g1, g2, h0, h1, h2⟩ := cgr_cells Q11.out
      have lr := R11.out.lt
      have lq11 := Q11.out.lt
      have nqr : ¬ q = r := by omega
      have nrq : ¬ r = q := by omega
      obtain ⟨d0, d1, d2, e0, e1, e2⟩ := cgr_cells R11.out
      go_wp2
      have HSF := Blk.far (Blk.far (Blk.far S11.out (a := ⟨q, 0, none⟩) (by simp only; omega) (.int .i64 m)) (a := ⟨q, 1, none⟩) (by simp only; omega) (.int .i64 (f))) (a := ⟨q, 2, none⟩) (by simp only; omega) (.int .i64 c)
      have HFF := FarI.setNew (b := q) (FarI.setNew (b := q) (FarI.setNew (b := q) F11.out (by omega) 0 (.int .i64 m)) (by omega) 1 (.int .i64 (f))) (by omega) 2 (.int .i64 c)
      exact bodyPost_ret (v := .agg #[.int .i64 m, .int .i64 (f), .int .i64 c]) (by simp [results, Try.results11, go_sem, g0, g1, g2]) rfl ⟨m, f, c, _, _, rfl, by simp only [vcB, Bool.and_eq_true]; exact ⟨inR_mk (by omega) (by omega), inR_mk (by omega) (by omega), inR_mk (by omega) (by omega)⟩, by omega, HSF, HFF⟩
    | true =>
      obtain ⟨g0, g1, g2, h0, h1, h2⟩ := cgr_cells Q11.out
      have lr := R11.out.lt
      have lq11 := Q11.out.lt
      have nqr : ¬ q = r := by omega
      have nrq : ¬ r = q := by omega
      by_cases h4 : 4 < m
      · have mh : 1 + m / 2 < m ∧ 0 ≤ 1 + m / 2 := by omega
        obtain ⟨fn, hfn⟩ : ∃ x, 1 + m / 2 = x := ⟨_, rfl⟩
        obtain ⟨d0, d1, d2, e0, e1, e2⟩ := cgr_cells R11.out
        go_wp2
        rw [hfn] at mh
        have S12 := Blk.far S11.out (a := ⟨r, 1, none⟩) (by simp only; omega) (.int .i64 fn)
        have F12 := F11.out.setNew (b := r) (by omega) 1 (.int .i64 fn)
        have HSF := Blk.far (Blk.far (Blk.far S12 (a := ⟨q, 0, none⟩) (by simp only; omega) (.int .i64 m)) (a := ⟨q, 1, none⟩) (by simp only; omega) (.int .i64 (fn))) (a := ⟨q, 2, none⟩) (by simp only; omega) (.int .i64 c)
        have HFF := FarI.setNew (b := q) (FarI.setNew (b := q) (FarI.setNew (b := q) F12 (by omega) 0 (.int .i64 m)) (by omega) 1 (.int .i64 (fn))) (by omega) 2 (.int .i64 c)
        exact bodyPost_ret (v := .agg #[.int .i64 m, .int .i64 (fn), .int .i64 c]) (by simp [results, Try.results11, go_sem, g0, g1, g2]) rfl ⟨m, fn, c, _, _, rfl, by simp only [vcB, Bool.and_eq_true]; exact ⟨inR_mk (by omega) (by omega), inR_mk (by omega) (by omega), inR_mk (by omega) (by omega)⟩, by omega, HSF, HFF⟩
      · obtain ⟨d0, d1, d2, e0, e1, e2⟩ := cgr_cells R11.out
        go_wp2
        have HSF := Blk.far (Blk.far (Blk.far S11.out (a := ⟨q, 0, none⟩) (by simp only; omega) (.int .i64 m)) (a := ⟨q, 1, none⟩) (by simp only; omega) (.int .i64 (f))) (a := ⟨q, 2, none⟩) (by simp only; omega) (.int .i64 c)
        have HFF := FarI.setNew (b := q) (FarI.setNew (b := q) (FarI.setNew (b := q) F11.out (by omega) 0 (.int .i64 m)) (by omega) 1 (.int .i64 (f))) (by omega) 2 (.int .i64 c)
        exact bodyPost_ret (v := .agg #[.int .i64 m, .int .i64 (f), .int .i64 c]) (by simp [results, Try.results11, go_sem, g0, g1, g2]) rfl ⟨m, f, c, _, _, rfl, by simp only [vcB, Bool.and_eq_true]; exact ⟨inR_mk (by omega) (by omega), inR_mk (by omega) (by omega), inR_mk (by omega) (by omega)⟩, by omega, HSF, HFF⟩
  · by_cases y1 : y = 1
    · subst y1
      go_wp2_with fail
      have S3 := Lib.hid (Blk.alloc S2.out (.cells #[.int .i64 16, .int .i64 64, .int .i64 256, .int .i64 100, .int .i64 81, .int .i64 31, .int .i64 127] 2))
      have C3 := Lib.hid (C2.out.kept (w' := w2.alloc (.cells #[.int .i64 16, .int .i64 64, .int .i64 256, .int .i64 100, .int .i64 81, .int .i64 31, .int .i64 127] 2)) (by simp) fun k hk => Below.heap_alloc w2 _ k (by have := C2.out.2.1; omega))
      have F3 := Lib.hid (F2.out.alloc (.cells #[.int .i64 16, .int .i64 64, .int .i64 256, .int .i64 100, .int .i64 81, .int .i64 31, .int .i64 127] 2))
      have Q3 := Lib.hid (Q2.out.alloc (.cells #[.int .i64 16, .int .i64 64, .int .i64 256, .int .i64 100, .int .i64 81, .int .i64 31, .int .i64 127] 2))
      have R3 := Lib.hid (Blk.new w2 #[.int .i64 16, .int .i64 64, .int .i64 256, .int .i64 100, .int .i64 81, .int .i64 31, .int .i64 127] 2)
      have lp2 := Blk.lt S2.out
      have hce : ∀ j, j < ([16, 64, 256, 100, 81, 31, 127] : List Int).length → (w2.alloc (.cells #[.int .i64 16, .int .i64 64, .int .i64 256, .int .i64 100, .int .i64 81, .int .i64 31, .int .i64 127] 2)).cell? ⟨w2.heap.size, j, none⟩ = some (.int .i64 (([16, 64, 256, 100, 81, 31, 127] : List Int).getD j 0)) := fun j hj => by
        have hj2 : j < 7 := hj
        have : j = 0 ∨ j = 1 ∨ j = 2 ∨ j = 3 ∨ j = 4 ∨ j = 5 ∨ j = 6 := by omega
        rcases this with rfl | rfl | rfl | rfl | rfl | rfl | rfl <;> exact R3.out.cell _ rfl
      have HCE := Lib.hid hce
      clear hce
      refine (among_any [16, 64, 256, 100, 81, 31, 127] w2.heap.size 7 p B a len cap zs _ _ _ S3.out C3.out hB (by omega) (by omega) (by simp) (by decide) (by decide) HCE.out).mono ?_
      rintro e w4 ⟨z, s4, t4, rfl, hz, hs4', hsr, hfr⟩
      have S4 := Lib.hid hsr
      have C4 := Lib.hid (C3.out.far hfr hB)
      have F4 := Lib.hid (F3.out.trans hfr)
      have Q4 := Lib.hid (Q3.out.kept hfr (by omega))
      have m2 : 2 ≤ ([16, 64, 256, 100, 81, 31, 127] : List Int).getD z 0 ∧ ([16, 64, 256, 100, 81, 31, 127] : List Int).getD z 0 ≤ 4001 := by
        have hj2 : z < 7 := hz
        have : z = 0 ∨ z = 1 ∨ z = 2 ∨ z = 3 ∨ z = 4 ∨ z = 5 ∨ z = 6 := by omega
        rcases this with rfl | rfl | rfl | rfl | rfl | rfl | rfl <;> decide
      obtain ⟨m, hm⟩ : ∃ m, ([16, 64, 256, 100, 81, 31, 127] : List Int).getD z 0 = m := ⟨_, rfl⟩
      rw [hm] at m2 ⊢
      clear hm hsr hfr
      go_wp2_with fail
      refine (pick_any m p B a len cap zs _ _ _ S4.out C4.out hB (by omega) (by omega) (by omega)).mono ?_
      rintro e w7 ⟨f, s7, t7, rfl, x07, x17, hs7', hsr, hfr⟩
      have S7 := Lib.hid hsr
      have C7 := Lib.hid (C4.out.far hfr hB)
      have F7 := Lib.hid (F4.out.trans hfr)
      have Q7 := Lib.hid (Q4.out.kept hfr (by omega))
      clear hsr hfr
      go_wp2_with fail
      have S8 := Lib.hid (Blk.alloc S7.out (.cells (cgr m f 0) 25))
      have C8 := Lib.hid (C7.out.kept (w' := w7.alloc (.cells (cgr m f 0) 25)) (by simp) fun k hk => Below.heap_alloc w7 _ k (by have := C7.out.2.1; omega))
      have F8 := Lib.hid (F7.out.alloc (.cells (cgr m f 0) 25))
      have Q8 := Lib.hid (Q7.out.alloc (.cells (cgr m f 0) 25))
      have R8 := Lib.hid (Blk.new w7 (cgr m f 0) 25)
      have lq := Q7.out.lt
      have lp7 := Blk.lt S7.out
      have l7 := F7.out.size
      obtain ⟨r, hr⟩ : ∃ r, w7.heap.size = r := ⟨_, rfl⟩
      obtain ⟨q, hq⟩ : ∃ r, w.heap.size = r := ⟨_, rfl⟩
      rw [hr] at R8 lq lp7 l7 ⊢
      rw [hq] at Q8 lq lp l7
      refine (pick_any m p B a len cap zs _ _ _ S8.out C8.out hB (by omega) (by omega) (by omega)).mono ?_
      rintro e w9 ⟨c, s9, t9, rfl, x09, x19, hs9', hsr, hfr⟩
      have S9 := Lib.hid hsr
      have C9 := Lib.hid (C8.out.far hfr hB)
      have F9 := Lib.hid (F8.out.trans hfr)
      have Q9 := Lib.hid (Q8.out.kept hfr (by omega))
      have R9 := Lib.hid (R8.out.kept hfr (by omega))
      clear hsr hfr
      obtain ⟨d0, d1, d2, e0, e1, e2⟩ := cgr_cells R9.out
      go_wp2_with fail
      clear d0 d1 d2 e0 e1 e2
      have S10 := Lib.hid (Blk.far S9.out (a := ⟨r, 2, none⟩) (by simp only; omega) (.int .i64 c))
      have C10 := Lib.hid (C9.out.kept (w' := w9.setCell ⟨r, 2, none⟩ (.int .i64 c)) (by simp [World.setCell]) fun k hk => Below.heap_setCell w9 ⟨r, 2, none⟩ _ k (by simp only; omega))
      have F10 := Lib.hid (F9.out.setNew (b := r) (by omega) 2 (.int .i64 c))
      have Q10 := Lib.hid (Q9.out.far (a := ⟨r, 2, none⟩) (by simp only; omega) (.int .i64 c))
      have R10 : Hid (Blk (w9.setCell ⟨r, 2, none⟩ (.int .i64 c)) r (cgr m f c) 25) := Lib.hid (R9.out.set 2 (.int .i64 c))
      refine (one_any 4 p B a len cap zs _ _ _ S10.out C10.out hB (by omega) (by decide) (by decide)).mono ?_
      rintro e w11 ⟨bb, s11, t11, rfl, hs11', hsr, hfr⟩
      have S11 := Lib.hid hsr
      have C11 := Lib.hid (C10.out.far hfr hB)
      have F11 := Lib.hid (F10.out.trans hfr)
      have Q11 := Lib.hid (Q10.out.kept hfr (by omega))
      have R11 := Lib.hid (R10.out.kept hfr (by omega))
      clear hsr hfr
      cases bb with
      | false =>
        obtain ⟨g0, g1, g2, h0, h1, h2⟩ := cgr_cells Q11.out
        have lr := R11.out.lt
        have lq11 := Q11.out.lt
        have nqr : ¬ q = r := by omega
        have nrq : ¬ r = q := by omega
        obtain ⟨d0, d1, d2, e0, e1, e2⟩ := cgr_cells R11.out
        go_wp2
        have HSF := Blk.far (Blk.far (Blk.far S11.out (a := ⟨q, 0, none⟩) (by simp only; omega) (.int .i64 m)) (a := ⟨q, 1, none⟩) (by simp only; omega) (.int .i64 (f))) (a := ⟨q, 2, none⟩) (by simp only; omega) (.int .i64 c)
        have HFF := FarI.setNew (b := q) (FarI.setNew (b := q) (FarI.setNew (b := q) F11.out (by omega) 0 (.int .i64 m)) (by omega) 1 (.int .i64 (f))) (by omega) 2 (.int .i64 c)
        exact bodyPost_ret (v := .agg #[.int .i64 m, .int .i64 (f), .int .i64 c]) (by simp [results, Try.results11, go_sem, g0, g1, g2]) rfl ⟨m, f, c, _, _, rfl, by simp only [vcB, Bool.and_eq_true]; exact ⟨inR_mk (by omega) (by omega), inR_mk (by omega) (by omega), inR_mk (by omega) (by omega)⟩, by omega, HSF, HFF⟩
      | true =>
        obtain ⟨g0, g1, g2, h0, h1, h2⟩ := cgr_cells Q11.out
        have lr := R11.out.lt
        have lq11 := Q11.out.lt
        have nqr : ¬ q = r := by omega
        have nrq : ¬ r = q := by omega
        by_cases h4 : 4 < m
        · have mh : 1 + m / 2 < m ∧ 0 ≤ 1 + m / 2 := by omega
          obtain ⟨fn, hfn⟩ : ∃ x, 1 + m / 2 = x := ⟨_, rfl⟩
          obtain ⟨d0, d1, d2, e0, e1, e2⟩ := cgr_cells R11.out
          go_wp2
          rw [hfn] at mh
          have S12 := Blk.far S11.out (a := ⟨r, 1, none⟩) (by simp only; omega) (.int .i64 fn)
          have F12 := F11.out.setNew (b := r) (by omega) 1 (.int .i64 fn)
          have HSF := Blk.far (Blk.far (Blk.far S12 (a := ⟨q, 0, none⟩) (by simp only; omega) (.int .i64 m)) (a := ⟨q, 1, none⟩) (by simp only; omega) (.int .i64 (fn))) (a := ⟨q, 2, none⟩) (by simp only; omega) (.int .i64 c)
          have HFF := FarI.setNew (b := q) (FarI.setNew (b := q) (FarI.setNew (b := q) F12 (by omega) 0 (.int .i64 m)) (by omega) 1 (.int .i64 (fn))) (by omega) 2 (.int .i64 c)
          exact bodyPost_ret (v := .agg #[.int .i64 m, .int .i64 (fn), .int .i64 c]) (by simp [results, Try.results11, go_sem, g0, g1, g2]) rfl ⟨m, fn, c, _, _, rfl, by simp only [vcB, Bool.and_eq_true]; exact ⟨inR_mk (by omega) (by omega), inR_mk (by omega) (by omega), inR_mk (by omega) (by omega)⟩, by omega, HSF, HFF⟩
        · obtain ⟨d0, d1, d2, e0, e1, e2⟩ := cgr_cells R11.out
          go_wp2
          have HSF := Blk.far (Blk.far (Blk.far S11.out (a := ⟨q, 0, none⟩) (by simp only; omega) (.int .i64 m)) (a := ⟨q, 1, none⟩) (by simp only; omega) (.int .i64 (f))) (a := ⟨q, 2, none⟩) (by simp only; omega) (.int .i64 c)
          have HFF := FarI.setNew (b := q) (FarI.setNew (b := q) (FarI.setNew (b := q) F11.out (by omega) 0 (.int .i64 m)) (by omega) 1 (.int .i64 (f))) (by omega) 2 (.int .i64 c)
          exact bodyPost_ret (v := .agg #[.int .i64 m, .int .i64 (f), .int .i64 c]) (by simp [results, Try.results11, go_sem, g0, g1, g2]) rfl ⟨m, f, c, _, _, rfl, by simp only [vcB, Bool.and_eq_true]; exact ⟨inR_mk (by omega) (by omega), inR_mk (by omega) (by omega), inR_mk (by omega) (by omega)⟩, by omega, HSF, HFF⟩
    · have m2 : 2 ≤ 2 + x ∧ 2 + x ≤ 4001 := by omega
      go_wp2_with fail
      obtain ⟨m, hm⟩ : ∃ m, 2 + x = m := ⟨_, rfl⟩
      rw [hm] at m2 ⊢
      clear hm
      refine (pick_any m p B a len cap zs _ _ _ S2.out C2.out hB (by omega) (by omega) (by omega)).mono ?_
      rintro e w7 ⟨f, s7, t7, rfl, x07, x17, hs7', hsr, hfr⟩
      have S7 := Lib.hid hsr
      have C7 := Lib.hid (C2.out.far hfr hB)
      have F7 := Lib.hid (F2.out.trans hfr)
      have Q7 := Lib.hid (Q2.out.kept hfr (by omega))
      clear hsr hfr
      go_wp2_with fail
      have S8 := Lib.hid (Blk.alloc S7.out (.cells (cgr m f 0) 25))
      have C8 := Lib.hid (C7.out.kept (w' := w7.alloc (.cells (cgr m f 0) 25)) (by simp) fun k hk => Below.heap_alloc w7 _ k (by have := C7.out.2.1; omega))
      have F8 := Lib.hid (F7.out.alloc (.cells (cgr m f 0) 25))
      have Q8 := Lib.hid (Q7.out.alloc (.cells (cgr m f 0) 25))
      have R8 := Lib.hid (Blk.new w7 (cgr m f 0) 25)
      have lq := Q7.out.lt
      have lp7 := Blk.lt S7.out
      have l7 := F7.out.size
      obtain ⟨r, hr⟩ : ∃ r, w7.heap.size = r := ⟨_, rfl⟩
      obtain ⟨q, hq⟩ : ∃ r, w.heap.size = r := ⟨_, rfl⟩
      rw [hr] at R8 lq lp7 l7 ⊢
      rw [hq] at Q8 lq lp l7
      refine (pick_any m p B a len cap zs _ _ _ S8.out C8.out hB (by omega) (by omega) (by omega)).mono ?_
      rintro e w9 ⟨c, s9, t9, rfl, x09, x19, hs9', hsr, hfr⟩
      have S9 := Lib.hid hsr
      have C9 := Lib.hid (C8.out.far hfr hB)
      have F9 := Lib.hid (F8.out.trans hfr)
      have Q9 := Lib.hid (Q8.out.kept hfr (by omega))
      have R9 := Lib.hid (R8.out.kept hfr (by omega))
      clear hsr hfr
      obtain ⟨d0, d1, d2, e0, e1, e2⟩ := cgr_cells R9.out
      go_wp2_with fail
      clear d0 d1 d2 e0 e1 e2
      have S10 := Lib.hid (Blk.far S9.out (a := ⟨r, 2, none⟩) (by simp only; omega) (.int .i64 c))
      have C10 := Lib.hid (C9.out.kept (w' := w9.setCell ⟨r, 2, none⟩ (.int .i64 c)) (by simp [World.setCell]) fun k hk => Below.heap_setCell w9 ⟨r, 2, none⟩ _ k (by simp only; omega))
      have F10 := Lib.hid (F9.out.setNew (b := r) (by omega) 2 (.int .i64 c))
      have Q10 := Lib.hid (Q9.out.far (a := ⟨r, 2, none⟩) (by simp only; omega) (.int .i64 c))
      have R10 : Hid (Blk (w9.setCell ⟨r, 2, none⟩ (.int .i64 c)) r (cgr m f c) 25) := Lib.hid (R9.out.set 2 (.int .i64 c))
      refine (one_any 4 p B a len cap zs _ _ _ S10.out C10.out hB (by omega) (by decide) (by decide)).mono ?_
      rintro e w11 ⟨bb, s11, t11, rfl, hs11', hsr, hfr⟩
      have S11 := Lib.hid hsr
      have C11 := Lib.hid (C10.out.far hfr hB)
      have F11 := Lib.hid (F10.out.trans hfr)
      have Q11 := Lib.hid (Q10.out.kept hfr (by omega))
      have R11 := Lib.hid (R10.out.kept hfr (by omega))
      clear hsr hfr
      cases bb with
      | false =>
        obtain ⟨g0, g1, g2, h0, h1, h2⟩ := cgr_cells Q11.out
        have lr := R11.out.lt
        have lq11 := Q11.out.lt
        have nqr : ¬ q = r := by omega
        have nrq : ¬ r = q := by omega
        obtain ⟨d0, d1, d2, e0, e1, e2⟩ := cgr_cells R11.out
        go_wp2
        have HSF := Blk.far (Blk.far (Blk.far S11.out (a := ⟨q, 0, none⟩) (by simp only; omega) (.int .i64 m)) (a := ⟨q, 1, none⟩) (by simp only; omega) (.int .i64 (f))) (a := ⟨q, 2, none⟩) (by simp only; omega) (.int .i64 c)
        have HFF := FarI.setNew (b := q) (FarI.setNew (b := q) (FarI.setNew (b := q) F11.out (by omega) 0 (.int .i64 m)) (by omega) 1 (.int .i64 (f))) (by omega) 2 (.int .i64 c)
        exact bodyPost_ret (v := .agg #[.int .i64 m, .int .i64 (f), .int .i64 c]) (by simp [results, Try.results11, go_sem, g0, g1, g2]) rfl ⟨m, f, c, _, _, rfl, by simp only [vcB, Bool.and_eq_true]; exact ⟨inR_mk (by omega) (by omega), inR_mk (by omega) (by omega), inR_mk (by omega) (by omega)⟩, by omega, HSF, HFF⟩
      | true =>
        obtain ⟨g0, g1, g2, h0, h1, h2⟩ := cgr_cells Q11.out
        have lr := R11.out.lt
        have lq11 := Q11.out.lt
        have nqr : ¬ q = r := by omega
        have nrq : ¬ r = q := by omega
        by_cases h4 : 4 < m
        · have mh : 1 + m / 2 < m ∧ 0 ≤ 1 + m / 2 := by omega
          obtain ⟨fn, hfn⟩ : ∃ x, 1 + m / 2 = x := ⟨_, rfl⟩
          obtain ⟨d0, d1, d2, e0, e1, e2⟩ := cgr_cells R11.out
          go_wp2
          rw [hfn] at mh
          have S12 := Blk.far S11.out (a := ⟨r, 1, none⟩) (by simp only; omega) (.int .i64 fn)
          have F12 := F11.out.setNew (b := r) (by omega) 1 (.int .i64 fn)
          have HSF := Blk.far (Blk.far (Blk.far S12 (a := ⟨q, 0, none⟩) (by simp only; omega) (.int .i64 m)) (a := ⟨q, 1, none⟩) (by simp only; omega) (.int .i64 (fn))) (a := ⟨q, 2, none⟩) (by simp only; omega) (.int .i64 c)
          have HFF := FarI.setNew (b := q) (FarI.setNew (b := q) (FarI.setNew (b := q) F12 (by omega) 0 (.int .i64 m)) (by omega) 1 (.int .i64 (fn))) (by omega) 2 (.int .i64 c)
          exact bodyPost_ret (v := .agg #[.int .i64 m, .int .i64 (fn), .int .i64 c]) (by simp [results, Try.results11, go_sem, g0, g1, g2]) rfl ⟨m, fn, c, _, _, rfl, by simp only [vcB, Bool.and_eq_true]; exact ⟨inR_mk (by omega) (by omega), inR_mk (by omega) (by omega), inR_mk (by omega) (by omega)⟩, by omega, HSF, HFF⟩
        · obtain ⟨d0, d1, d2, e0, e1, e2⟩ := cgr_cells R11.out
          go_wp2
          have HSF := Blk.far (Blk.far (Blk.far S11.out (a := ⟨q, 0, none⟩) (by simp only; omega) (.int .i64 m)) (a := ⟨q, 1, none⟩) (by simp only; omega) (.int .i64 (f))) (a := ⟨q, 2, none⟩) (by simp only; omega) (.int .i64 c)
          have HFF := FarI.setNew (b := q) (FarI.setNew (b := q) (FarI.setNew (b := q) F11.out (by omega) 0 (.int .i64 m)) (by omega) 1 (.int .i64 (f))) (by omega) 2 (.int .i64 c)
          exact bodyPost_ret (v := .agg #[.int .i64 m, .int .i64 (f), .int .i64 c]) (by simp [results, Try.results11, go_sem, g0, g1, g2]) rfl ⟨m, f, c, _, _, rfl, by simp only [vcB, Bool.and_eq_true]; exact ⟨inR_mk (by omega) (by omega), inR_mk (by omega) (by omega), inR_mk (by omega) (by omega)⟩, by omega, HSF, HFF⟩
end Go.Proofs.Ythkgaldpajnjgaa
