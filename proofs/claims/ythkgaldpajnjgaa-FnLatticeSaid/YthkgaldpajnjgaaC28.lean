/-
  Contract of B10Congruence. Conditions: the code is a row of bytes that came in.
-/
import Derived.Test.YthkgaldpajnjgaaC27
import Derived.Deep.RegionHeld3
namespace Go.Proofs.Ythkgaldpajnjgaa
open Go.RowKit
set_option linter.unusedVariables false

theorem B10Congruence_any (a : Option Addr) (len cap : Nat) (zs : List Int) (w : World) (h : IsRow .u8 w a len cap zs) :
    Calls Try.prog 5 #[.slice a len cap] w fun e w' => ∃ m f c x : Int, e = .returned (.tuple #[.agg #[.int .i64 m, .int .i64 f, .int .i64 c], .int .i64 x]) ∧ vcB m f c = true ∧ 0 ≤ x ∧ x < m ∧ Below w.heap.size w w' := by
  have C0 := Lib.hid ((CodeAt.of h).later ((Below.refl w.heap.size w).alloc (Nat.le_refl _) (.cells (cgr 0 0 0) 25)))
  have Q0 := Lib.hid (Blk.new w (cgr 0 0 0) 25)
  have B0 := Lib.hid ((Below.refl w.heap.size w).alloc (Nat.le_refl _) (.cells (cgr 0 0 0) 25))
  clear h
  go_enter Try.func5, Try.ntmps5
  go_wp2_with fail
  refine (l00From_any a len cap _).mono ?_
  rintro e w1 ⟨rfl, hs1, hb1, hz1⟩
  obtain ⟨q, hq⟩ : ∃ q, w.heap.size = q := ⟨_, rfl⟩
  have hp : (w.alloc (.cells (cgr 0 0 0) 25)).heap.size = q + 1 := by simp; exact hq
  have hp2 : (w.alloc (.cells #[.int .i64 0, .int .i64 0, .int .i64 0] 25)).heap.size = q + 1 := hp
  rw [hp2] at hs1 hb1 hz1 ⊢
  rw [hq] at C0 Q0 B0
  have S1 := Lib.hid hs1
  have C1 := Lib.hid (C0.out.later (hb1.mono (by omega)))
  have Q1 : Hid (Blk w1 q (cgr 0 0 0) 25) := Lib.hid ((hb1.block q (by omega)).trans Q0.out)
  have B1 := Lib.hid (B0.out.trans (hb1.mono (by omega)))
  clear hs1 hb1 hp hp2
  have C1' := Lib.hid (C1.out)
  go_wp2_with fail
  refine (l03DrawOk_any (q + 1) q a len cap zs 0 0 _ S1.out C1.out (by omega) (by omega)).mono ?_
  rintro e w2 ⟨m, f, c, s2, t2, rfl, hv, ht2, hs2, hf2⟩
  obtain ⟨m1, m2, m3⟩ := vcB_true hv
  have HV := Lib.hid hv
  have S2 := Lib.hid (Blk.alloc hs2 (.cells (cgr m f c) 25))
  have C2 := Lib.hid ((C1.out.far hf2 (by omega)).kept (w' := w2.alloc (.cells (cgr m f c) 25)) (by simp) fun k hk => Below.heap_alloc w2 _ k (by have := (C1.out.far hf2 (by omega : q ≤ q + 1)).2.1; omega))
  have Q2 := Lib.hid ((Q1.out.kept hf2 (by omega)).alloc (.cells (cgr m f c) 25))
  have R2 := Lib.hid (Blk.new w2 (cgr m f c) 25)
  have B2 := Lib.hid ((B1.out.trans (hf2.below (by omega) (by omega))).alloc (by have := hf2.size; omega) (.cells (cgr m f c) 25))
  have l2 := hf2.size
  clear hs2 hf2 hv
  go_wp2_with fail
  obtain ⟨r, hr⟩ : ∃ r, w2.heap.size = r := ⟨_, rfl⟩
  rw [hr] at R2
  obtain ⟨w4, hw4⟩ : ∃ w4, w2.alloc (.cells #[.int .i64 m, .int .i64 f, .int .i64 c] 25) = w4 := ⟨_, rfl⟩
  have hw5 : w2.alloc (.cells (cgr m f c) 25) = w4 := hw4
  rw [hw5] at S2 C2 Q2 R2 B2
  rw [hw4, hr]
  have lr := R2.out.lt
  have lq := Q2.out.lt
  have nqr : ¬ q = r := by omega
  have nrq : ¬ r = q := by omega
  obtain ⟨d0, d1, d2, e0, e1, e2⟩ := cgr_cells R2.out
  have S3 : Hid (SrcAt w4.drew (q + 1) a len cap t2 s2) := Lib.hid S2.out
  have C3 : Hid (CodeAt w4.drew q a len cap zs) := Lib.hid (C2.out.kept (Nat.le_refl _) fun _ _ => rfl)
  have R3 : Hid (Blk w4.drew r (cgr m f c) 25) := Lib.hid R2.out
  have Q3 : Hid (Blk w4.drew q (cgr 0 0 0) 25) := Lib.hid Q2.out
  go_region_held3 (fun w' => w'.cell? ⟨r, 0, none⟩ = some (.int .i64 m) ∧ w'.cell? ⟨r, 1, none⟩ = some (.int .i64 f) ∧ w'.cell? ⟨r, 2, none⟩ = some (.int .i64 c)) (go_keep)
    (first | (go_at_call 12; refine (pick_any m (q + 1) q a len cap zs t2 s2 _ S3.out C3.out (by omega) (by omega) (by omega) (by omega)).mono ?_; rintro e w6 ⟨x, s6, t6, rfl, x0, x1, ht6, hs6, hf6⟩; obtain ⟨d0, d1, d2, e0, e1, e2⟩ := cgr_cells (Blk.kept R3.out hf6 (by omega)); obtain ⟨g0, g1, g2, h0, h1, h2⟩ := cgr_cells (Blk.kept Q3.out hf6 (by omega))))
  have hbb : Below q w (((w6.setCell ⟨q, 0, none⟩ (.int .i64 m)).setCell ⟨q, 1, none⟩ (.int .i64 f)).setCell ⟨q, 2, none⟩ (.int .i64 c)) :=
    (((B2.out.drew.trans (hf6.below (by omega) (by simp; omega))).setCell (by simp) _).setCell (by simp) _).setCell (by simp) _
  have HBB := Lib.hid hbb
  clear hbb hs6 hf6
  go_wp2
  exact bodyPost_ret (v := .tuple #[.agg #[.int .i64 m, .int .i64 f, .int .i64 c], .int .i64 x]) (by simp [results, Try.results5, go_sem, g0, g1, g2]) rfl ⟨m, f, c, x, rfl, HV.out, x0, x1, by rw [hq]; exact HBB.out⟩
end Go.Proofs.Ythkgaldpajnjgaa
