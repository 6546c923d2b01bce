/-
  Walk of the law FnLattice: it returns true for every argument. No condition.
-/
import Derived.Test.YthkgaldpajnjgaaM34
import Derived.Test.YthkgaldpajnjgaaP10
import Derived.Test.YthkgaldpajnjgaaC4
import Derived.Test.YthkgaldpajnjgaaC28
namespace Go.Proofs.Ythkgaldpajnjgaa
open Go.RowKit
set_option linter.unusedVariables false

theorem b10Sq_n (xs : List Int) (n : Nat) (hn : xs.length = n) (a : Option Addr) (c base : Nat) (w : World) (h : HasL base w a c xs) (hs : Small xs) (hl : n ≤ 8) :
    Calls Try.prog 9 #[.slice a n c] w fun e w' => e = .returned (.int .i64 (sqs xs)) ∧ ∃ k, w' = w.drewN k := by
  subst hn
  exact b10Squares_any xs a c base w h hs hl
theorem el_bd {xs : List Int} {b : Int} (hb : 0 ≤ b) (h : sqs xs ≤ b * b) : ∀ j, j < xs.length → -b ≤ xs.getD j 0 ∧ xs.getD j 0 ≤ b := fun j hj => sq_bd hb (Int.le_trans (sq_in hj) h)
set_option maxHeartbeats 1000000 in
set_option maxRecDepth 100000 in
theorem FnLattice_walk (a0 : Option Addr) (len0 cap0 : Nat) (z0 : List Int) (a1 : Option Addr) (len1 cap1 : Nat) (z1 : List Int) (w : World) (w0 : IsRow .u8 w a0 len0 cap0 z0) (w1 : IsRow .u8 w a1 len1 cap1 z1) :
    Calls Try.prog 3 #[.slice a0 len0 cap0, .slice a1 len1 cap1] w fun e w' => e = .returned (.bool true) ∧ Below w.heap.size w w' := by
  obtain ⟨g0, _, _⟩ := w0.len_le
  obtain ⟨g1, _, _⟩ := w1.len_le
  cases hl : long2 len0 len1 with
  | true =>
    clear w0 w1
    go_enter Try.func3, Try.ntmps3
    go_wp2_with (go_at_call 4; refine (b10Long_of g0 g1 hl).mono ?_; rintro e w' ⟨rfl, rfl⟩)
    go_ret
    exact ⟨rfl, bw_refl _⟩
  | false =>
    have HW0 := Lib.hid w0
    have HW1 := Lib.hid w1
    clear w0 w1
    go_enter Try.func3, Try.ntmps3
    go_wp2_with fail
    refine (b10Long_of g0 g1 hl).mono ?_
    rintro e w' ⟨rfl, rfl⟩
    clear hl g0 g1
    go_wp2_with fail
    refine (B10Congruence_any a0 len0 cap0 z0 _ HW0.out).mono ?_
    rintro e w2 ⟨m, f, a, cx, rfl, hv, x0, x1, hb2⟩
    clear x0 x1 HW0
    obtain ⟨m1, m2, m3⟩ := vcB_true hv
    obtain ⟨q, hq⟩ : ∃ q, w2.heap.size = q := ⟨_, rfl⟩
    obtain ⟨w3, hw3⟩ : ∃ w3, w2.alloc (.cells #[.int .i64 m, .int .i64 f, .int .i64 a] 25) = w3 := ⟨_, rfl⟩
    have HQ3 : Hid (Blk w3 q (cgr m f a) 25) := Lib.hid (by rw [← hw3]; exact Blk.new' hq _ _)
    have HB3 : Hid (Below w.heap.size w w3) := Lib.hid (by rw [← hw3]; exact bw_alloc hb2 _)
    have hqw : w.heap.size ≤ q := by rw [← hq]; exact hb2.size
    have Hqw := Lib.hid hqw
    have HVC := Lib.hid hv
    clear hb2 hqw hv
    obtain ⟨D, HD⟩ : ∃ D, Hid (b10 z1 len1 0 2 = D) := ⟨_, Lib.hid rfl⟩
    have hD : 0 ≤ D ∧ D < 2 := HD.out ▸ b10_lt z1 len1 0 (n := 2) (by omega)
    obtain ⟨K, rfl⟩ := Int.eq_ofNat_of_zero_le hD.1
    obtain ⟨dim, hdim⟩ : ∃ dim : Nat, (2 : Int) + (K : Int) = (dim : Int) := ⟨2 + K, by omega⟩
    have hd23 : dim = 2 ∨ dim = 3 := by omega
    have hSP := fun w => ShortestPoint_any m f a HVC.out dim hd23 w
    have hSW := fun w => ShortestWave_any m f a HVC.out dim hd23 w
    have HD23 := Lib.hid hd23
    have hdw : wrap64 (dim : Int) = (dim : Int) := IntWalk.wrap64_in _ ⟨by omega, by omega⟩
    clear hD hd23
    go_wp2_with fail
    clear hw3 hq
    refine (b10At_of (HW1.out.below HB3.out) (by omega) (by omega) (by omega) HD).mono ?_
    rintro e w' ⟨rfl, rfl⟩
    obtain ⟨c0, c1, c2, c3⟩ := cgr_cells HQ3.out
    clear c3
    go_wp2_with fail
    simp only [hdw]
    clear c0 c1 c2 hdim hdw
    with_reducible refine (hSP _).mono ?_
    rintro e w4 ⟨gp, cp, ys, rfl, hyl, hyg, hym, hyL, hb4⟩
    have HQ4 := Lib.hid (HQ3.out.later hb4)
    have HB4 := Lib.hid (bw_call HB3.out hb4)
    have HYL := Lib.hid hyl
    have HYG := Lib.hid (And.intro hyg (And.intro hym hyL))
    clear hyl hyg hym hyL hb4 hSP
    obtain ⟨c0, c1, c2, c3⟩ := cgr_cells HQ4.out
    clear c3
    go_wp2_with fail
    clear c0 c1 c2
    with_reducible refine (hSW _).mono ?_
    rintro e w5 ⟨gw, cw, x, xs, rfl, hwl, hxl, hwv, hwP, hws, hwL, hb5⟩
    have HQ5 := Lib.hid (HQ4.out.later hb5)
    have HB5 := Lib.hid (bw_call HB4.out hb5)
    have HPL := Lib.hid (HYL.out.later hb5)
    have HWL := Lib.hid hwl
    have HWG := Lib.hid (And.intro hwv (And.intro hwP (And.intro hws hwL)))
    have HXL := Lib.hid hxl
    clear hwl hwv hwP hws hwL hb5 hSW HYL hxl
    have hmm : m * m ≤ 100000 * 100000 := Int.mul_le_mul (by omega) (by omega) (by omega) (by omega)
    have HEy := Lib.hid (el_bd (b := 100000) (by omega) (show sqs ys ≤ 100000 * 100000 from Int.le_trans HYG.out.2.1 hmm))
    have HEw := Lib.hid (el_bd (b := 200000) (by omega) (show sqs (x :: xs) ≤ 200000 * 200000 from Int.le_trans HWG.out.2.2.1 (by omega)))
    have hlw : (x :: xs).length = dim := by have := HXL.out; simpa using this
    have hd8 : dim ≤ 8 := by have := HD23.out; omega
    have hSqP := fun base w h => b10Sq_n ys dim HYG.out.1.1 (some ⟨gp, 0, none⟩) cp base w h (small_of (by have := HYG.out.2.1; omega)) hd8
    have hSqW := fun base w h => b10Sq_n (x :: xs) dim hlw (some ⟨gw, 0, none⟩) cw base w h (small_of (by have := HWG.out.2.2.1; omega)) hd8
    have hA1 := HYG.out.1.2.2.sq
    have hB1 := HWG.out.2.1.sq
    have Hlw := Lib.hid hlw
    have Hd8 := Lib.hid hd8
    have Hmm := Lib.hid hmm
    obtain ⟨A, HA⟩ : ∃ A, Hid (sqs ys = A) := ⟨_, Lib.hid rfl⟩
    obtain ⟨Bq, HBq⟩ : ∃ Bq, Hid (sqs (x :: xs) = Bq) := ⟨_, Lib.hid rfl⟩
    simp only [HA.out] at hSqP hA1 ⊢
    simp only [HBq.out] at hSqW hB1 ⊢
    clear hlw hd8 hmm
    go_upto_region 9 with (go_at_call 9; first
      | ((with_reducible refine (hSqP _ _ (by first | exact HPL.out | exact HPL.out.later (bw_drewN (bw_refl _) _))).mono ?_); rintro e w' ⟨rfl, n1, rfl⟩)
      | ((with_reducible refine (hSqW _ _ (by first | exact HWL.out | exact HWL.out.later (bw_drewN (bw_refl _) _))).mono ?_); rintro e w' ⟨rfl, n2, rfl⟩))
    obtain ⟨w6, hw6⟩ : ∃ w6, w5.drewN (n1 + n2) = w6 := ⟨_, rfl⟩
    have HQ6 : Hid (Blk w6 q (cgr m f a) 25) := Lib.hid (by rw [← hw6]; exact HQ5.out.drewN _)
    have HB6 : Hid (Below w.heap.size w w6) := Lib.hid (by rw [← hw6]; exact bw_drewN HB5.out _)
    have HPL6 : Hid (HasL w3.heap.size w6 (some ⟨gp, 0, none⟩) cp ys) := Lib.hid (by rw [← hw6]; exact HPL.out.later (bw_drewN (bw_refl _) _))
    have HWL6 : Hid (HasL w4.heap.size w6 (some ⟨gw, 0, none⟩) cw (x :: xs)) := Lib.hid (by rw [← hw6]; exact HWL.out.later (bw_drewN (bw_refl _) _))
    rw [hw6]
    clear hw6 HPL HWL HQ5 HQ4 HQ3 HB5 HB4 HB3 hSqP hSqW
    obtain ⟨gp', hgp', _, hgp, hcp, _⟩ := HPL6.out.cells (by have := HYG.out.1.1; have := HD23.out; omega)
    obtain ⟨gw', hgw', _, hgw, hcw, _⟩ := HWL6.out.cells (by simp)
    cases hgp'
    cases hgw'
    have Hgp := Lib.hid hgp
    have Hgw := Lib.hid hgw
    have HCp : Hid (∀ j, j < dim → w6.cell? ⟨gp, j, none⟩ = some (.int .i64 (ys.getD j 0))) := Lib.hid (fun j hj => hcp j (by rw [HYG.out.1.1]; exact hj))
    have HCw : Hid (∀ j, j < dim → w6.cell? ⟨gw, j, none⟩ = some (.int .i64 ((x :: xs).getD j 0))) := Lib.hid (fun j hj => hcw j (by rw [Hlw.out]; exact hj))
    have HLF := Lib.hid (fun k (hk : k < dim) => lat_facts (m := m) (f := f) (ys := ys) (ws := x :: xs) (d := dim) m1 m2 (fun j hj => HEy.out j (by rw [HYG.out.1.1]; exact hj)) (fun j hj => HEw.out j (by rw [Hlw.out]; exact hj)) hk (by have := HD23.out; omega))
    have HPF := Lib.hid (fun k (hk : k + 1 < dim) => pair_facts (m := m) (f := f) (ys := ys) (d := dim) (k := k) m1 m2 (fun j hj => HEy.out j (by rw [HYG.out.1.1]; exact hj)) HYG.out.1.2.1 HYG.out.1.1 hk)
    have HLL := Lib.hid (lat_law (m := m) (f := f) (ys := ys) (x := x) (xs := xs) HD23.out m2 HYG.out.1.2.1 HYG.out.1.1 HXL.out HWG.out.1)
    have hd3 : dim ≤ 3 := by have := HD23.out; omega
    clear hcp hcw hgp hgw HPL6 HWL6
    go_wp2
    go_loopw [14, 15, 16, 17] (fun sv wv pv iv wr => ∃ k : Nat, k ≤ dim ∧ iv = .int .i64 k ∧ sv = .int .i64 (lat m f ys (x :: xs) k).1 ∧ wv = .int .i64 (lat m f ys (x :: xs) k).2.1 ∧ pv = .int .i64 (lat m f ys (x :: xs) k).2.2 ∧ Hid (Below w6.heap.size w6 wr)) (fun _ _ _ iv _ => dim - (intOf iv).toNat)
    case atStart => exact ⟨0, Nat.zero_le _, rfl, rfl, rfl, rfl, Lib.hid (bw_refl _)⟩
    case round =>
      obtain ⟨k, hk, rfl, rfl, rfl, rfl, hw⟩ := hrel
      by_cases hlt : k < dim
      · have hk3 : k = 0 ∨ k = 1 ∨ k = 2 := by omega
        have hgp := Hgp.out
        have hgw := Hgw.out
        rcases hk3 with rfl | rfl | rfl
        · obtain ⟨p, v, q1, S, S', u, W, W', P, P', y, ⟨e1, e2, e3, e4, e5, e6, e7, e8⟩, f1, f2, f3, f4, f5, f6, ⟨f7, f7'⟩, ⟨f8, f8'⟩, ⟨f9, f9'⟩, ⟨f10, f10'⟩, ⟨f11, f11'⟩⟩ := HLF.out 0 hlt
          have k1 := (hw.out.cell (p := ⟨gp, 0, none⟩) hgp).trans (HCp.out 0 hlt)
          have k2 := (hw.out.cell (p := ⟨gw, 0, none⟩) hgw).trans (HCw.out 0 hlt)
          obtain ⟨c0, c1, c2, c3⟩ := cgr_cells (HQ6.out.later hw.out)
          clear c3 hgp hgw
          rw [e1] at k1
          rw [e2] at k2
          rw [e3, e4, e5]
          have h0 : (0 : Int) < (dim : Int) := by omega
          have HE := Lib.hid (And.intro e6 (And.intro e7 e8))
          clear e1 e2 e3 e4 e5 e6 e7 e8 hlt
          go_wp2
          go_quiet (fail)
          go_wp2
          go_quiet (fail)
          go_wp2
          go_roundw
          case rel => exact ⟨0 + 1, by omega, by first | rfl | go_num, by rw [HE.out.1], by rw [HE.out.2.1], by rw [HE.out.2.2], Lib.hid (by first | exact bw_drewN hw.out _ | exact bw_drew hw.out | exact hw.out)⟩
          case measure => simp [intOf]; omega
        · obtain ⟨p, v, q1, S, S', u, W, W', P, P', y, ⟨e1, e2, e3, e4, e5, e6, e7, e8⟩, f1, f2, f3, f4, f5, f6, ⟨f7, f7'⟩, ⟨f8, f8'⟩, ⟨f9, f9'⟩, ⟨f10, f10'⟩, ⟨f11, f11'⟩⟩ := HLF.out 1 hlt
          have k1 := (hw.out.cell (p := ⟨gp, 1, none⟩) hgp).trans (HCp.out 1 hlt)
          have k2 := (hw.out.cell (p := ⟨gw, 1, none⟩) hgw).trans (HCw.out 1 hlt)
          obtain ⟨c0, c1, c2, c3⟩ := cgr_cells (HQ6.out.later hw.out)
          clear c3 hgp hgw
          rw [e1] at k1
          rw [e2] at k2
          rw [e3, e4, e5]
          have h0 : (1 : Int) < (dim : Int) := by omega
          obtain ⟨r, g, d, r1, r2, r3, r4, ⟨r5, r5'⟩, ⟨r6, r6'⟩⟩ := HPF.out 0 hlt
          have k3 := (hw.out.cell (p := ⟨gp, 0, none⟩) Hgp.out).trans (HCp.out 0 (by omega))
          rw [r1] at k3
          rw [show 0 + 1 = 1 from rfl, e1] at r3
          clear r1
          have HE := Lib.hid (And.intro e6 (And.intro e7 e8))
          clear e1 e2 e3 e4 e5 e6 e7 e8 hlt
          go_wp2
          go_quiet (fail)
          go_wp2
          go_quiet (fail)
          go_wp2
          go_roundw
          case rel => exact ⟨1 + 1, by omega, by first | rfl | go_num, by rw [HE.out.1], by rw [HE.out.2.1], by rw [HE.out.2.2], Lib.hid (by first | exact bw_drewN hw.out _ | exact bw_drew hw.out | exact hw.out)⟩
          case measure => simp [intOf]; omega
        · obtain ⟨p, v, q1, S, S', u, W, W', P, P', y, ⟨e1, e2, e3, e4, e5, e6, e7, e8⟩, f1, f2, f3, f4, f5, f6, ⟨f7, f7'⟩, ⟨f8, f8'⟩, ⟨f9, f9'⟩, ⟨f10, f10'⟩, ⟨f11, f11'⟩⟩ := HLF.out 2 hlt
          have k1 := (hw.out.cell (p := ⟨gp, 2, none⟩) hgp).trans (HCp.out 2 hlt)
          have k2 := (hw.out.cell (p := ⟨gw, 2, none⟩) hgw).trans (HCw.out 2 hlt)
          obtain ⟨c0, c1, c2, c3⟩ := cgr_cells (HQ6.out.later hw.out)
          clear c3 hgp hgw
          rw [e1] at k1
          rw [e2] at k2
          rw [e3, e4, e5]
          have h0 : (2 : Int) < (dim : Int) := by omega
          obtain ⟨r, g, d, r1, r2, r3, r4, ⟨r5, r5'⟩, ⟨r6, r6'⟩⟩ := HPF.out 1 hlt
          have k3 := (hw.out.cell (p := ⟨gp, 1, none⟩) Hgp.out).trans (HCp.out 1 (by omega))
          rw [r1] at k3
          rw [show 1 + 1 = 2 from rfl, e1] at r3
          clear r1
          have HE := Lib.hid (And.intro e6 (And.intro e7 e8))
          clear e1 e2 e3 e4 e5 e6 e7 e8 hlt
          go_wp2
          go_quiet (fail)
          go_wp2
          go_quiet (fail)
          go_wp2
          go_roundw
          case rel => exact ⟨2 + 1, by omega, by first | rfl | go_num, by rw [HE.out.1], by rw [HE.out.2.1], by rw [HE.out.2.2], Lib.hid (by first | exact bw_drewN hw.out _ | exact bw_drew hw.out | exact hw.out)⟩
          case measure => simp [intOf]; omega
      · have hke : k = dim := by omega
        rw [hke]
        clear hke hlt hk k
        obtain ⟨wo, rfl⟩ : ∃ wo : World, wo = wr := ⟨_, rfl⟩
        obtain ⟨l1, l2⟩ := HLL.out
        obtain ⟨S, HS⟩ : ∃ S, Hid ((lat m f ys (x :: xs) dim).1 = S) := ⟨_, Lib.hid rfl⟩
        obtain ⟨W, HW⟩ : ∃ W, Hid ((lat m f ys (x :: xs) dim).2.1 = W) := ⟨_, Lib.hid rfl⟩
        obtain ⟨P, HP⟩ : ∃ P, Hid ((lat m f ys (x :: xs) dim).2.2 = P) := ⟨_, Lib.hid rfl⟩
        rw [HS.out] at l1 ⊢
        rw [HW.out] at l2 ⊢
        rw [HP.out]
        have HBo := Lib.hid (bw_call HB6.out hw.out)
        have HQo := Lib.hid (HQ6.out.later hw.out)
        obtain ⟨X0, HX⟩ : ∃ X, Hid (b10 z1 len1 1 60 = X) := ⟨_, Lib.hid rfl⟩
        have hX : 0 ≤ X0 ∧ X0 < 60 := HX.out ▸ b10_lt z1 len1 1 (n := 60) (by omega)
        obtain ⟨gd, HGd⟩ : ∃ g : Nat → Int, Hid (∀ i : Nat, b10 z1 len1 ((i : Int) + 1) 2 = g i) := ⟨_, Lib.hid fun _ => rfl⟩
        obtain ⟨gy, HGy⟩ : ∃ g : Nat → Int, Hid (∀ i : Nat, b10 z1 len1 ((i : Int) + 4) 21 - 10 = g i) := ⟨_, Lib.hid fun _ => rfl⟩
        have hgd : ∀ i, gd i = 0 ∨ gd i = 1 := fun i => by have := b10_lt z1 len1 ((i : Int) + 1) (n := 2) (by omega); rw [HGd.out] at this; omega
        have hgy : ∀ i, -10 ≤ gy i ∧ gy i ≤ 10 := fun i => by have := b10_lt z1 len1 ((i : Int) + 4) (n := 21) (by omega); rw [← HGy.out]; omega
        have HDF := Lib.hid (fun k hk => dr_facts (m := m) (f := f) (x := X0) (gd := gd) (gy := gy) (k := k) m1 m2 (by omega) hgd hgy hk)
        have HGS := Lib.hid (And.intro hgd (And.intro hgy hX))
        have hAt := b10At_of (HW1.out.below HBo.out) (i := 1) (n := 60) (by omega) (by omega) (by omega) HX
        obtain ⟨c0, c1, c2, c3⟩ := cgr_cells HQo.out
        clear c3 hgd hgy hX
        go_wp2_with fail
        clear c0 c1 c2 l1 l2
        refine hAt.mono ?_
        rintro e w' ⟨rfl, rfl⟩
        clear hAt
        have HLm := Lib.hid (LatW.made X0 HQo.out HBo.out)
        go_wp2
        go_loopw [16, 18, 19, 20, 21, 22, 23] (fun pv xv tv rv fv iv _ wr => ∃ (k p1 c1 p2 c2 : Nat), k + 1 ≤ dim ∧ iv = .int .i64 ((k + 1 : Nat) : Int) ∧ pv = .int .i64 (drP m f k) ∧ xv = .int .i64 (drX m f X0 k) ∧ fv = .int .i64 (drF m f gy k) ∧ tv = .slice (some ⟨p1, 0, none⟩) (k + 1) c1 ∧ rv = .slice (some ⟨p2, 0, none⟩) (k + 1) c2 ∧ Hid (LatW w wr q m f a p1 c1 (drT m f X0 gd k) p2 c2 (drR gy k))) (fun _ _ _ _ _ iv _ _ => dim - (intOf iv).toNat)
        case atStart => exact ⟨0, _, _, _, _, by have := HD23.out; omega, rfl, rfl, rfl, rfl, rfl, rfl, HLm⟩
        case round =>
          obtain ⟨k, p1, c1, p2, c2, hk, rfl, rfl, rfl, rfl, rfl, rfl, hL⟩ := hrel
          by_cases hlt : k + 1 < dim
          · have hk2 : k = 0 ∨ k = 1 := by omega
            rcases hk2 with rfl | rfl
            · obtain ⟨X, X', P1, P', F, F', xf, pf, d, md, t, Y, u, ⟨e1, e2, e3, e4, e5, e6, e7, e8, e9, e10⟩, f1, f2, f3, f4, f5, f6, f7, f8, ⟨g1, g1'⟩, ⟨g2, g2'⟩, ⟨g3, g3'⟩, ⟨g4, g4'⟩, ⟨g5, g5'⟩, ⟨g6, g6'⟩, g7⟩ := HDF.out 0 (by omega)
              have HD1 : Hid (b10 z1 len1 2 2 = d) := Lib.hid (by rw [← e7, ← HGd.out]; rfl)
              obtain ⟨Yb, hYb⟩ : ∃ Yb, Yb - 10 = Y := ⟨Y + 10, by omega⟩
              have HD2 : Hid (b10 z1 len1 5 21 = Yb) := Lib.hid (by
                have h := HGy.out 1
                rw [e8] at h
                have h2 : b10 z1 len1 (((1 : Nat) : Int) + 4) 21 = Yb := by omega
                exact h2)
              rw [e1, e2, e3]
              have HE := Lib.hid (And.intro e4 (And.intro e5 (And.intro e6 (And.intro e9 e10))))
              have h0 : (1 : Int) < (dim : Int) := by omega
              have hrow : ∀ w', Below wr.heap.size wr w' → IsRow .u8 w' a1 len1 cap1 z1 := fun w' hb => HW1.out.below (bw_call hL.out.below hb)
              have HRow := Lib.hid hrow
              have HLat := Lib.hid (fun w' (hb : Below wr.heap.size wr w') => hL.out.later hb)
              have hl1 : (drT m f X0 gd 0).length = 1 := drT_len _ _ _ _ _
              obtain ⟨c0, c1'⟩ := hL.out.cells
              have Y1 : -10 ≤ Y := g7.1
              have Y2 : Y ≤ 10 := g7.2
              have Hlt := Lib.hid hlt
              have Hl1 := Lib.hid hl1
              clear e1 e2 e3 e4 e5 e6 e7 e8 e9 e10 g7 hrow hlt hl1
              have hw2 : IntKind.i64.wrap (2 : Int) = 2 := by decide
              go_upto_region 31 with fail
              go_region_held3 (fun w' => w'.cell? ⟨q, 0, none⟩ = some (.int .i64 m) ∧ w'.cell? ⟨q, 1, none⟩ = some (.int .i64 f)) (go_keep)
                (first
                  | (go_at_call 6; (with_reducible refine (b10At_of (HRow.out _ (by first | exact bw_drew (bw_refl _) | exact bw_refl _)) (by omega) (by omega) (by omega) HD1).mono ?_); rintro e w' ⟨rfl, rfl⟩)
                  | (refine stepTwo rfl (.tmp 170) (.tmp 180) rfl (n := 1) Hl1.out (by simp [Act.eval]) (HLat.out _ (by first | exact bw_drew (bw_alloc (bw_refl _) _) | exact bw_alloc (bw_drew (bw_refl _)) _)) (by simp [Act.eval]) (heap_alloc_new wr _) (by omega) ?_; intro p3 cap3 w7 hL7
                     obtain ⟨c0, c1'⟩ := hL7.cells))
              have HL7 := Lib.hid hL7
              have HRow7 := Lib.hid (fun w' (hb : Below w7.heap.size w7 w') => HW1.out.below (bw_call HL7.out.below hb))
              have Hl2 : Hid ((drR gy 0).length = 1) := Lib.hid (drR_len _ _)
              clear hL7
              go_wp2_with (first
                | (go_at_call 6; (with_reducible refine (b10At_of (HRow7.out _ (bw_refl _)) (by omega) (by omega) (by omega) HD2).mono ?_); rintro e w' ⟨rfl, rfl⟩)
                | (at_builtin; refine wpTwo rfl _ _ rfl (n := 1) Hl2.out rfl (HL7.out.swap.later (bw_alloc (bw_refl _) _)) rfl (heap_alloc_new w7 _) (by omega) ?_; intro p4 cap4 w8 hL8))
              have HL8 := Lib.hid hL8
              clear hL8
              go_roundw
              case rel => exact ⟨1, p3, cap3, p4, cap4, Hlt.out, by first | rfl | go_num, by rw [HE.out.2.1], by rw [HE.out.1], by rw [HE.out.2.2.1], rfl, rfl, Lib.hid (by rw [HE.out.2.2.2.1, HE.out.2.2.2.2]; exact HL8.out.swap)⟩
              case measure => have := Hlt.out; simp [intOf]; omega
            · obtain ⟨X, X', P1, P', F, F', xf, pf, d, md, t, Y, u, ⟨e1, e2, e3, e4, e5, e6, e7, e8, e9, e10⟩, f1, f2, f3, f4, f5, f6, f7, f8, ⟨g1, g1'⟩, ⟨g2, g2'⟩, ⟨g3, g3'⟩, ⟨g4, g4'⟩, ⟨g5, g5'⟩, ⟨g6, g6'⟩, g7⟩ := HDF.out 1 (by omega)
              have HD1 : Hid (b10 z1 len1 3 2 = d) := Lib.hid (by rw [← e7, ← HGd.out]; rfl)
              obtain ⟨Yb, hYb⟩ : ∃ Yb, Yb - 10 = Y := ⟨Y + 10, by omega⟩
              have HD2 : Hid (b10 z1 len1 6 21 = Yb) := Lib.hid (by
                have h := HGy.out 2
                rw [e8] at h
                have h2 : b10 z1 len1 (((2 : Nat) : Int) + 4) 21 = Yb := by omega
                exact h2)
              rw [e1, e2, e3]
              have HE := Lib.hid (And.intro e4 (And.intro e5 (And.intro e6 (And.intro e9 e10))))
              have h0 : (2 : Int) < (dim : Int) := by omega
              have hrow : ∀ w', Below wr.heap.size wr w' → IsRow .u8 w' a1 len1 cap1 z1 := fun w' hb => HW1.out.below (bw_call hL.out.below hb)
              have HRow := Lib.hid hrow
              have HLat := Lib.hid (fun w' (hb : Below wr.heap.size wr w') => hL.out.later hb)
              have hl1 : (drT m f X0 gd 1).length = 2 := drT_len _ _ _ _ _
              obtain ⟨c0, c1'⟩ := hL.out.cells
              have Y1 : -10 ≤ Y := g7.1
              have Y2 : Y ≤ 10 := g7.2
              have Hlt := Lib.hid hlt
              have Hl1 := Lib.hid hl1
              clear e1 e2 e3 e4 e5 e6 e7 e8 e9 e10 g7 hrow hlt hl1
              have hw2 : IntKind.i64.wrap (3 : Int) = 3 := by decide
              go_upto_region 31 with fail
              go_region_held3 (fun w' => w'.cell? ⟨q, 0, none⟩ = some (.int .i64 m) ∧ w'.cell? ⟨q, 1, none⟩ = some (.int .i64 f)) (go_keep)
                (first
                  | (go_at_call 6; (with_reducible refine (b10At_of (HRow.out _ (by first | exact bw_drew (bw_refl _) | exact bw_refl _)) (by omega) (by omega) (by omega) HD1).mono ?_); rintro e w' ⟨rfl, rfl⟩)
                  | (refine stepTwo rfl (.tmp 170) (.tmp 180) rfl (n := 2) Hl1.out (by simp [Act.eval]) (HLat.out _ (by first | exact bw_drew (bw_alloc (bw_refl _) _) | exact bw_alloc (bw_drew (bw_refl _)) _)) (by simp [Act.eval]) (heap_alloc_new wr _) (by omega) ?_; intro p3 cap3 w7 hL7
                     obtain ⟨c0, c1'⟩ := hL7.cells))
              have HL7 := Lib.hid hL7
              have HRow7 := Lib.hid (fun w' (hb : Below w7.heap.size w7 w') => HW1.out.below (bw_call HL7.out.below hb))
              have Hl2 : Hid ((drR gy 1).length = 2) := Lib.hid (drR_len _ _)
              clear hL7
              go_wp2_with (first
                | (go_at_call 6; (with_reducible refine (b10At_of (HRow7.out _ (bw_refl _)) (by omega) (by omega) (by omega) HD2).mono ?_); rintro e w' ⟨rfl, rfl⟩)
                | (at_builtin; refine wpTwo rfl _ _ rfl (n := 2) Hl2.out rfl (HL7.out.swap.later (bw_alloc (bw_refl _) _)) rfl (heap_alloc_new w7 _) (by omega) ?_; intro p4 cap4 w8 hL8))
              have HL8 := Lib.hid hL8
              clear hL8
              go_roundw
              case rel => exact ⟨2, p3, cap3, p4, cap4, Hlt.out, by first | rfl | go_num, by rw [HE.out.2.1], by rw [HE.out.1], by rw [HE.out.2.2.1], rfl, rfl, Lib.hid (by rw [HE.out.2.2.2.1, HE.out.2.2.2.2]; exact HL8.out.swap)⟩
              case measure => have := Hlt.out; simp [intOf]; omega
          · have hke : k + 1 = dim := by omega
            rw [hke]
            have hK12 : k = 1 ∨ k = 2 := by have := HD23.out; omega
            obtain ⟨hgd, hgy, hX⟩ := HGS.out
            obtain ⟨t1, t2, t3⟩ := fm_law (n := drF m f gy k) (show 0 < m by omega)
            have HzR := Lib.hid (fun z (hz : -(drF m f gy k).tmod m = z) => drR_law (ys := x :: xs) hK12 m1 m2 (show LeastWv k m f (x :: xs) by have h := HWG.out.2.2.2; rwa [show dim - 1 = k by omega] at h) hz)
            have HzT := Lib.hid (drT_law (ys := ys) (x := X0) (gd := gd) hK12 hke m1 hX.1 hgd HYG.out.2.2 HYG.out.2.1)
            have HsT := Lib.hid (small_T (m := m) (f := f) (x := X0) (gd := gd) hK12 m1 m2 (by omega) hgd)
            have hl1 : (drT m f X0 gd k).length = dim := by rw [drT_len]; exact hke
            have hl2 : (drR gy k).length = dim := by rw [drR_len]; exact hke
            obtain ⟨F, HF⟩ : ∃ F, Hid (drF m f gy k = F) := ⟨_, Lib.hid rfl⟩
            rw [HF.out] at t2 t3 ⊢
            obtain ⟨t, ht⟩ : ∃ t, F.tmod m = t := ⟨_, rfl⟩
            rw [ht] at t2 t3
            obtain ⟨z, hz⟩ : ∃ z, -t = z := ⟨_, rfl⟩
            have hzw : wrap64 z = z := (w64 (by omega) (by omega)).1
            have hz1 := HzR.out z (by rw [HF.out, ht, hz])
            have HsR := Lib.hid (small_R (m := m) (z := z) (gy := gy) (K := k) (by omega) hgy)
            have hcell := hL.out.two.cellAt 0 (by rw [drR_len]; omega)
            rw [List.getElem?_map, List.getElem?_eq_getElem (by rw [drR_len]; omega)] at hcell
            simp only [Option.map_some] at hcell
            have hfz := hL.out.two.frozenAt 0
            have HS2 := Lib.hid (hL.out.stored 0 z)
            have hl3 : ((drR gy k).set 0 z).length = dim := by rw [List.length_set]; exact hl2
            obtain ⟨N1, HN1⟩ : ∃ N, Hid (sqs (drT m f X0 gd k) = N) := ⟨_, Lib.hid rfl⟩
            obtain ⟨N2, HN2⟩ : ∃ N, Hid (sqs ((drR gy k).set 0 z) = N) := ⟨_, Lib.hid rfl⟩
            have hS1 := fun base w h => b10Sq_n (drT m f X0 gd k) dim hl1 (some ⟨p1, 0, none⟩) c1 base w h HsT.out Hd8.out
            have hS2 := fun base w h => b10Sq_n ((drR gy k).set 0 z) dim hl3 (some ⟨p2, 0, none⟩) c2 base w h HsR.out Hd8.out
            have hN1 := HzT.out
            rw [HN1.out, HA.out] at hN1
            rw [HN2.out, HBq.out] at hz1
            simp only [HN1.out] at hS1
            simp only [HN2.out] at hS2
            obtain ⟨c0, c1', c2', c3'⟩ := cgr_cells hL.out.box
            have h0d : (0 : Int) < (dim : Int) := by omega
            obtain ⟨r0, hr0⟩ : ∃ r0, (drR gy k)[0]'(by rw [drR_len]; omega) = r0 := ⟨_, rfl⟩
            rw [hr0] at hcell
            clear c3' t1 hl1 hl2 hl3 hgd hgy hX hK12 hke hlt hk hr0
            rcases hN1 with rfl | hN1
            · rcases hz1 with rfl | hz1
              · go_wp2_with (go_at_call 9; first
                  | ((with_reducible refine (hS1 _ _ HS2.out.list).mono ?_); rintro e w' ⟨rfl, n3, rfl⟩)
                  | ((with_reducible refine (hS2 _ _ (HS2.out.later (bw_drewN (bw_refl _) _)).swap.list).mono ?_); rintro e w' ⟨rfl, n4, rfl⟩))
                go_ret
                exact ⟨ret_bool (by simp), (HS2.out.later (bw_drewN (bw_refl _) _)).below⟩
              · have hz2 : ¬ N2 = 0 := by omega
                go_wp2_with (go_at_call 9; first
                  | ((with_reducible refine (hS1 _ _ HS2.out.list).mono ?_); rintro e w' ⟨rfl, n3, rfl⟩)
                  | ((with_reducible refine (hS2 _ _ (HS2.out.later (bw_drewN (bw_refl _) _)).swap.list).mono ?_); rintro e w' ⟨rfl, n4, rfl⟩))
                go_ret
                exact ⟨ret_bool (by simp), (HS2.out.later (bw_drewN (bw_refl _) _)).below⟩
            · have hN0 : ¬ N1 = 0 := by omega
              rcases hz1 with rfl | hz1
              · go_wp2_with (go_at_call 9; first
                  | ((with_reducible refine (hS1 _ _ HS2.out.list).mono ?_); rintro e w' ⟨rfl, n3, rfl⟩)
                  | ((with_reducible refine (hS2 _ _ (HS2.out.later (bw_drewN (bw_refl _) _)).swap.list).mono ?_); rintro e w' ⟨rfl, n4, rfl⟩))
                go_ret
                exact ⟨ret_bool (by simp), (HS2.out.later (bw_drewN (bw_refl _) _)).below⟩
              · have hz2 : ¬ N2 = 0 := by omega
                go_wp2_with (go_at_call 9; first
                  | ((with_reducible refine (hS1 _ _ HS2.out.list).mono ?_); rintro e w' ⟨rfl, n3, rfl⟩)
                  | ((with_reducible refine (hS2 _ _ (HS2.out.later (bw_drewN (bw_refl _) _)).swap.list).mono ?_); rintro e w' ⟨rfl, n4, rfl⟩))
                go_ret
                exact ⟨ret_bool (by simp), (HS2.out.later (bw_drewN (bw_refl _) _)).below⟩
end Go.Proofs.Ythkgaldpajnjgaa
