/-
  Walk of the law FnJumped: it returns true for every argument. No condition.
-/
import Derived.Test.YtifigkkghfjhpaaC28
import Derived.Test.YtifigkkghfjhpaaC13
import Derived.Test.YtifigkkghfjhpaaC14
import Derived.Test.YtifigkkghfjhpaaC4
import Derived.Test.YtifigkkghfjhpaaM9
namespace Go.Proofs.Ytifigkkghfjhpaa
open Go.RowKit
set_option linter.unusedVariables false

theorem inv_facts {m f ad : Int} (hk : bkB m f ad = true) : f * inv m f % m = 1 ∧ 0 ≤ inv m f ∧ inv m f < m := by
  simp only [bkB, Bool.and_eq_true, beq_iff_eq] at hk
  obtain ⟨b1, b2, b3⟩ := vcB_true hk.1
  obtain ⟨M, rfl⟩ := Int.eq_ofNat_of_zero_le (show 0 ≤ m by omega)
  obtain ⟨F, rfl⟩ := Int.eq_ofNat_of_zero_le (show 0 ≤ f by omega)
  have h2 := hk.2
  unfold gcdI at h2
  rw [Int.toNat_natCast, Int.toNat_natCast] at h2
  have s := invN_spec (f := F) (m := M) (by omega) (by omega)
  unfold inv
  rw [Int.toNat_natCast, Int.toNat_natCast]
  refine ⟨?_, by omega, by omega⟩
  rw [← Int.natCast_mul, ← Int.natCast_emod, s.2.2.1]; rfl
set_option maxRecDepth 100000 in
set_option maxHeartbeats 1000000 in
theorem FnJumped_walk (a0 : Option Addr) (len0 cap0 : Nat) (z0 : List Int) (a1 : Option Addr) (len1 cap1 : Nat) (z1 : List Int) (w : World) (w0 : IsRow .u8 w a0 len0 cap0 z0) (w1 : IsRow .u8 w a1 len1 cap1 z1) :
    Calls Try.prog 12 #[.slice a0 len0 cap0, .slice a1 len1 cap1] w fun e w' => e = .returned (.bool true) ∧ Below w.heap.size w w' := by
  obtain ⟨g0, _, _⟩ := w0.len_le
  obtain ⟨g1, _, _⟩ := w1.len_le
  have HW0 := Lib.hid w0
  have HW1 := Lib.hid w1
  clear w0 w1
  cases hl : long2 len0 len1 with
  | true =>
    go_enter Try.func12, Try.ntmps12
    go_wp2_with (go_at_call 39; refine (b10Long_of g0 g1 hl).mono ?_; rintro e w' ⟨rfl, rfl⟩)
    go_ret
    exact ⟨rfl, bw_refl _⟩
  | false =>
    obtain ⟨n, H1⟩ : ∃ d, Hid (b10 z1 len1 0 60 = d) := ⟨_, Lib.hid rfl⟩
    have b1 : 0 ≤ n ∧ n < 60 := H1.out ▸ b10_lt z1 len1 0 (n := 60) (by omega)
    obtain ⟨g, H2⟩ : ∃ d, Hid (b10 z1 len1 1 200 = d) := ⟨_, Lib.hid rfl⟩
    have b2 : 0 ≤ g ∧ g < 200 := H2.out ▸ b10_lt z1 len1 1 (n := 200) (by omega)
    obtain ⟨N, rfl⟩ := Int.eq_ofNat_of_zero_le b1.1
    go_enter Try.func12, Try.ntmps12
    go_wp2_with (go_at_call 39; refine (b10Long_of g0 g1 hl).mono ?_; rintro e w' ⟨rfl, rfl⟩)
    refine (B10Congruence_any a0 len0 cap0 z0 _ HW0.out).mono ?_
    rintro e w0 ⟨m, f, ad, x, rfl, hv, x0, x1, hb⟩
    have hns : nsB m f ad x = true := by simp only [nsB, hv, Bool.true_and]; exact inR_mk x0 (by omega)
    obtain ⟨v1, v2, v3⟩ := vcB_true hv
    have HN := Lib.hid hns
    have HV := Lib.hid hv
    have R1 := Lib.hid (Blk.new w0 (cgr m f ad) 33)
    have B1 := Lib.hid (bw_alloc hb (.cells (cgr m f ad) 33))
    clear hb hns hv
    go_wp2_with fail
    obtain ⟨w1, hw1⟩ : ∃ w1, w0.alloc (.cells (cgr m f ad) 33) = w1 := ⟨_, rfl⟩
    have hw2 : w0.alloc (.cells #[.int .i64 m, .int .i64 f, .int .i64 ad] 33) = w1 := hw1
    rw [hw1] at R1 B1
    rw [hw2]
    obtain ⟨r, hr⟩ : ∃ r, w0.heap.size = r := ⟨_, rfl⟩
    rw [hr] at R1 ⊢
    clear hw1 hw2 hr
    refine (b10At_of (HW1.out.below B1.out) (by omega) (by omega) (by omega) H1).mono ?_
    rintro e w' ⟨rfl, rfl⟩
    have i60 : inR (N : Int) 0 64 = true := inR_mk (by omega) (by omega)
    have hB : ssB m f ad x N = true := by simp [ssB, HN.out, i60]
    have hL : ssL m f ad x N = sts m f ad x N := by simp [ssL, hB]
    have E1 := Lib.hid hB
    have E2 := Lib.hid hL
    clear hB hL i60
    obtain ⟨d0, d1, d2, e0, e1, e2⟩ := cgr_cells R1.out
    go_wp2_with fail
    refine (StatesOf_any m f ad x N _).mono ?_
    rw [E1.out, E2.out]
    rintro e w2 ⟨a5, c5, rfl, hls, hb⟩
    have B2 := Lib.hid (bw_call B1.out hb)
    have R2 := Lib.hid (R1.out.later hb)
    clear hb
    clear d0 d1 d2 e0 e1 e2
    rw [sts_len]
    have LS2 := Lib.hid hls
    clear hls
    have i18 : inR (N : Int) 0 1000000000000000000 = true := inR_mk (by omega) (by omega)
    have hjB : jsB m f ad x N = true := by simp [jsB, HN.out, i18]
    have hjV : jsV m f ad x N = it m f ad N x := by simp [jsV, hjB]
    have E3 := Lib.hid hjB
    have E4 := Lib.hid hjV
    clear hjB hjV
    obtain ⟨J, HJ⟩ : ∃ J, Hid (it m f ad N x = J) := ⟨_, Lib.hid rfl⟩
    have jb := it_bd (f := f) (a := ad) v1.1 N x0 (by omega)
    rw [HJ.out] at jb
    obtain ⟨d0, d1, d2, e0, e1, e2⟩ := cgr_cells R2.out
    go_wp2_with fail
    refine (JumpState_any m f ad x N _).mono ?_
    rw [E3.out, E4.out, HJ.out]
    rintro e w3 ⟨rfl, hb⟩
    have B3 := Lib.hid (bw_call B2.out hb)
    have R3 := Lib.hid (R2.out.later hb)
    have LS3 := Lib.hid (LS2.out.later hb)
    clear hb
    clear d0 d1 d2 e0 e1 e2
    have hpB : psB m f ad N = true := by simp [psB, HV.out, i18]
    have E5 := Lib.hid hpB
    have E6 := Lib.hid (show psM m f ad N = m by simp [psM, hpB])
    have E7 := Lib.hid (show psF m f ad N = pF m f N by simp [psF, hpB])
    have E8 := Lib.hid (show psA m f ad N = pA m f ad N by simp [psA, hpB])
    clear hpB i18
    obtain ⟨d0, d1, d2, e0, e1, e2⟩ := cgr_cells R3.out
    go_wp2_with fail
    refine (PowerCongruence_any m f ad N _).mono ?_
    rw [E5.out, E6.out, E7.out, E8.out]
    rintro e w4 ⟨rfl, hb⟩
    have B4 := Lib.hid (bw_call B3.out hb)
    have R4 := Lib.hid (R3.out.later hb)
    have LS4 := Lib.hid (LS3.out.later hb)
    clear hb
    clear d0 d1 d2 e0 e1 e2
    go_wp2_with fail
    obtain ⟨w5, hw⟩ : ∃ w', w4.alloc (.cells #[.int .i64 m, .int .i64 (pF m f N), .int .i64 (pA m f ad N)] 33) = w' := ⟨_, rfl⟩
    have B5 := Lib.hid (bw_alloc B4.out (.cells #[.int .i64 m, .int .i64 (pF m f N), .int .i64 (pA m f ad N)] 33))
    have hb : Below w4.heap.size w4 w5 := hw ▸ bw_alloc (bw_refl _) _
    rw [hw] at B5 ⊢
    have R5 := Lib.hid (R4.out.later hb)
    have LS5 := Lib.hid (LS4.out.later hb)
    clear hw hb
    have E9 := Lib.hid (ns_pow HN.out N)
    have E10 := Lib.hid (show nsV m (pF m f N) (pA m f ad N) x = J by rw [nsV, if_pos E9.out, stp_pow HN.out, HJ.out])
    refine (NextState_any m (pF m f N) (pA m f ad N) x _).mono ?_
    rw [E9.out, E10.out]
    rintro e w6 ⟨rfl, hb⟩
    have B6 := Lib.hid (bw_call B5.out hb)
    have R6 := Lib.hid (R5.out.later hb)
    have LS6 := Lib.hid (LS5.out.later hb)
    clear hb
    go_wp2
    have s6 := B6.out.size
    go_loopw [16, 17] (fun s i wr => ∃ t : Nat, t ≤ N ∧ i = .int .i64 t ∧ s = .int .i64 (it m f ad t x) ∧ Hid (Below w6.heap.size w6 wr)) (fun _ i _ => N - (intOf i).toNat)
    case atStart => exact ⟨0, by omega, rfl, rfl, Lib.hid (bw_refl _)⟩
    case round =>
      obtain ⟨t, ht, rfl, rfl, hbl⟩ := hrel
      by_cases hlt : t < N
      · have RR := Lib.hid (R6.out.later hbl.out)
        obtain ⟨d0, d1, d2, _, _, _⟩ := cgr_cells RR.out
        have hnt := ns_it HN.out t
        have E11 := Lib.hid hnt
        have E12 := Lib.hid (show nsV m f ad (it m f ad t x) = it m f ad (t + 1) x by rw [nsV, if_pos hnt]; exact (it_add m f ad t 1 x).symm)
        clear hnt
        go_wp2_with fail
        refine (NextState_any m f ad (it m f ad t x) _).mono ?_
        rw [E11.out, E12.out]
        rintro e w20 ⟨rfl, hb⟩
        have BL := Lib.hid (hbl.out.trans (hb.mono hbl.out.size))
        obtain ⟨g5, hg5, _, _, hc, _⟩ := (LS6.out.later BL.out).cells (by rw [sts_len]; omega)
        have q := hc t (by rw [sts_len]; exact hlt)
        have q2 : (sts m f ad x N).getD t 0 = it m f ad (t + 1) x := by simp [sts, List.getD, hlt]
        rw [q2] at q
        subst hg5
        have r0 : (0 : Int) ≤ (t : Int) := by omega
        have r1 : (t : Int) < (N : Int) := by omega
        clear hb hc q2 d0 d1 d2
        go_wp2
        go_roundw
        case rel => exact ⟨t + 1, by omega, by go_num, rfl, BL⟩
        case measure => simp [intOf]; omega
      · have hte : t = N := by omega
        subst hte
        rw [HJ.out]
        have B7 := Lib.hid (bw_call B6.out hbl.out)
        have R7 := Lib.hid (R6.out.later hbl.out)
        go_wp2_with fail
        refine (b10At_of (HW1.out.below B7.out) (by omega) (by omega) (by omega) H2).mono ?_
        rintro e w' ⟨rfl, rfl⟩
        obtain ⟨G, hG⟩ : ∃ G : Nat, 1000000007 * (1 + g) = (G : Int) := ⟨(1000000007 * (1 + g)).toNat, by omega⟩
        have gb : G ≤ 300000000000 := by omega
        have HG := Lib.hid hG
        clear hG
        have i1 : inR (G : Int) 0 1000000000000000000 = true := inR_mk (by omega) (by omega)
        have i2 : inR ((G : Int) + (t : Int)) 0 1000000000000000000 = true := inR_mk (by omega) (by omega)
        have nJ : nsB m f ad J = true := by simp only [nsB, HV.out, Bool.true_and]; exact inR_mk jb.1 jb.2
        obtain ⟨FR, HFR⟩ : ∃ J', Hid (it m f ad G J = J') := ⟨_, Lib.hid rfl⟩
        have F1 := Lib.hid (show jsB m f ad J G = true by simp only [jsB, nJ, i1, Bool.true_and])
        have F2 := Lib.hid (show jsV m f ad J G = FR by rw [jsV, if_pos F1.out, Int.toNat_natCast, HFR.out])
        have F3 := Lib.hid (show jsB m f ad x ((G : Int) + (t : Int)) = true by simp only [jsB, HN.out, i2, Bool.true_and])
        have F4 := Lib.hid (show jsV m f ad x ((G : Int) + (t : Int)) = FR by rw [jsV, if_pos F3.out, show ((G : Int) + (t : Int)).toNat = t + G by omega, it_add, HJ.out, HFR.out])
        clear i1 i2 nJ
        obtain ⟨d0, d1, d2, _, _, _⟩ := cgr_cells R7.out
        go_wp2_with fail
        rw [HG.out]
        refine (JumpState_any m f ad J G _).mono ?_
        rw [F1.out, F2.out]
        rintro e w8 ⟨rfl, hb⟩
        have B8 := Lib.hid (bw_call B7.out hb)
        have R8 := Lib.hid (R7.out.later hb)
        clear hb d0 d1 d2
        obtain ⟨d0, d1, d2, _, _, _⟩ := cgr_cells R8.out
        go_wp2_with fail
        refine (JumpState_any m f ad x ((G : Int) + (t : Int)) _).mono ?_
        rw [F3.out, F4.out]
        rintro e w9 ⟨rfl, hb⟩
        have B9 := Lib.hid (bw_call B8.out hb)
        have R9 := Lib.hid (R8.out.later hb)
        clear hb d0 d1 d2
        obtain ⟨d0, d1, d2, _, _, _⟩ := cgr_cells R9.out
        go_wp2_with fail
        refine (BackCongruence_any m f ad _).mono ?_
        rintro e w10 ⟨rfl, hb⟩
        have B10 := Lib.hid (bw_call B9.out hb)
        have R10 := Lib.hid (R9.out.later hb)
        clear hb d0 d1 d2
        obtain ⟨d0, d1, d2, _, _, _⟩ := cgr_cells R10.out
        have lr := R10.out.lt
        go_wp2_with fail
        have K11 := Lib.hid (Blk.new w10 (cgr (bkM m f ad) (bkF m f ad) (bkA m f ad)) 33)
        have R11 := Lib.hid (R10.out.alloc (.cells (cgr (bkM m f ad) (bkF m f ad) (bkA m f ad)) 33))
        have B11 := Lib.hid (bw_alloc B10.out (.cells (cgr (bkM m f ad) (bkF m f ad) (bkA m f ad)) 33))
        clear d0 d1 d2
        refine (sBackCongruence_any m f ad _).mono ?_
        rintro e w12 ⟨rfl, hb⟩
        have K12 := Lib.hid (K11.out.later hb)
        have R12 := Lib.hid (R11.out.later hb)
        have B12 := Lib.hid (bw_call B11.out hb)
        have l12 := hb.size
        clear hb
        cases hk : bkB m f ad with
        | false =>
          go_wp2
          go_ret
          exact ⟨rfl, bw_alloc B12.out _⟩
        | true =>
          have K := inv_facts hk
          have bM : bkM m f ad = m := by simp [bkM, hk]
          have bF : bkF m f ad = inv m f := by simp [bkF, hk]
          have bA : bkA m f ad = -ad % m * inv m f % m := by simp [bkA, hk]
          rw [bM, bF, bA] at K12 ⊢
          obtain ⟨iv, hiv⟩ : ∃ iv, inv m f = iv := ⟨_, rfl⟩
          rw [hiv] at K K12 ⊢
          obtain ⟨y, hy⟩ : ∃ y, stp m f ad x = y := ⟨_, rfl⟩
          have yb := stp_bd (m := m) (f := f) (a := ad) (x := x) v1.1
          rw [hy] at yb
          have A0 := Int.emod_nonneg (-ad % m * iv) (show m ≠ 0 by omega)
          have A1 := Int.emod_lt_of_pos (-ad % m * iv) (show 0 < m by omega)
          have N1 := Lib.hid (show nsV m f ad x = y by rw [nsV, if_pos HN.out, hy])
          have vb : nsB m iv (-ad % m * iv % m) y = true := by simp only [nsB, vcB, Bool.and_eq_true]; exact ⟨⟨inR_mk (by omega) (by omega), inR_mk (by omega) (by omega), inR_mk (by omega) (by omega)⟩, inR_mk (by omega) (by omega)⟩
          have N2 := Lib.hid vb
          have N3 := Lib.hid (show nsV m iv (-ad % m * iv % m) y = x by rw [nsV, if_pos vb, ← hy]; exact back_step K.1 x0 x1)
          obtain ⟨bA', hbA⟩ : ∃ z, -ad % m * iv % m = z := ⟨_, rfl⟩
          rw [hbA] at K12 N2 N3 ⊢
          clear hbA hiv hy vb A0 A1 bM bF bA K
          obtain ⟨d0, d1, d2, _, _, _⟩ := cgr_cells R12.out
          obtain ⟨h0, h1, h2, _, _, _⟩ := cgr_cells K12.out
          have lr2 := R12.out.lt
          have lk2 := K12.out.lt
          go_wp2_with fail
          refine (NextState_any m f ad x _).mono ?_
          rw [HN.out, N1.out]
          rintro e w14 ⟨rfl, hb⟩
          have K14 := Lib.hid ((K12.out.alloc (.cells (cgr m iv bA') 33)).later hb)
          have B14 := Lib.hid (bw_call (bw_alloc B12.out (.cells (cgr m iv bA') 33)) hb)
          clear hb d0 d1 d2 h0 h1 h2
          obtain ⟨h0, h1, h2, _, _, _⟩ := cgr_cells K14.out
          go_wp2_with fail
          refine (NextState_any m iv bA' y _).mono ?_
          rw [N2.out, N3.out]
          rintro e w15 ⟨rfl, hb⟩
          have B15 := Lib.hid (bw_call B14.out hb)
          clear hb
          go_wp2
          go_ret
          exact ⟨rfl, B15.out⟩
end Go.Proofs.Ytifigkkghfjhpaa
