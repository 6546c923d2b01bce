/-
  The division of natural numbers of any size, and the greatest common divisor. Conditions stand in each contract.
-/
import Derived.Test.YthkmhpkoanmbkaaDoorN9
namespace Go.Proofs.YthkmhpkoanmbkaaDoor
open Go.RowKit
set_option linter.unusedVariables false

/-- What the division hands back. -/
def OverR (m n : Int) (w : World) (e : Ending) (w' : World) : Prop :=
  ∃ a1 c1 z1 a2 c2 z2, e = .returned (.tuple #[.slice a1 (List.length z1) c1, .slice a2 (List.length z2) c2]) ∧ NatU w' a1 c1 z1 (m / n) ∧ NatU w' a2 c2 z2 (m % n) ∧ Below w.heap.size w w'
theorem over_last {m n p Q V : Int} (hp : 1 ≤ p) (hn : 0 < n) (h : Q * (n * p) + V = m * p) (v0 : 0 ≤ V) (v1 : V < n * p) : m / n = Q ∧ m % n = V / p := by
  have e1 : V = (m - Q * n) * p := by grind
  have e2 : V / p = m - Q * n := by rw [e1]; exact Int.mul_ediv_cancel _ (by omega)
  have e3 : 0 ≤ V / p := Int.ediv_nonneg v0 (by omega)
  have e4 : V / p < n := by
    refine mul_lt_of_bd (c := p) (by omega) ?_
    rw [e2, ← e1]; exact v1
  rw [e2] at e3 e4 ⊢
  exact divmod_of (by omega) e3 e4
theorem over_first {m p D : Int} {K L : Nat} (h : m < bp L) (m0 : 0 ≤ m) (p1 : 1 ≤ p) (p2 : p ≤ 2147483648) (hD : 2147483648 * bp K ≤ D) (hK : K ≤ L) : m * p < D * bp (L - K) := by
  have h1 : m * p ≤ m * 2147483648 := Int.mul_le_mul_of_nonneg_left p2 m0
  have h2 : (2147483648 * bp K) * bp (L - K) ≤ D * bp (L - K) := Int.mul_le_mul_of_nonneg_right hD (by have := bp_pos (L - K); omega)
  have h3 : bp L = bp K * bp (L - K) := by rw [← bp_add]; congr 1; omega
  have h4 : (2147483648 * bp K) * bp (L - K) = 2147483648 * bp L := by rw [h3]; grind
  omega
theorem over_sum {A P B D V R q o : Int} (h : (A - (P + o * B)) * D + V = R) : (A + (q - o) * B - P) * D + (V - q * D * B) = R := by grind
theorem NatU.zero_nil {w : World} : NatU w none 0 [] 0 := ⟨⟨Nat.le_refl _, by unfold maxLen; decide, fun _ => rfl, fun g o e => by cases e⟩, .inl rfl, Dig.nil, .inl rfl, rfl, by simp⟩
theorem NatU.nonneg {w : World} {a : Option Addr} {c : Nat} {xs : List Int} {m : Int} (h : NatU w a c xs m) : 0 ≤ m := by rw [← h.eq]; exact val_nonneg h.dig
theorem NatU.lenle {w : World} {a : Option Addr} {c : Nat} {xs : List Int} {m : Int} (h : NatU w a c xs m) {k : Nat} (hm : m < bp k) : xs.length ≤ k := by
  by_cases h0 : xs.length = 0
  · omega
  · have l1 := norm_low h.dig h.norm h0
    rw [h.eq] at l1
    by_cases c : k ≤ xs.length - 1
    · have := bp_mono c; omega
    · omega
set_option maxRecDepth 100000 in
set_option maxHeartbeats 40000000 in
theorem over_any (xs ys : List Int) (a b : Option Addr) (ca cb : Nat) (m n : Int) (w : World) (ha : NatU w a ca xs m) (hb : NatU w b cb ys n) (hs : xs.length ≤ 300 ∧ ys.length ≤ 300) (h0 : 0 < n) :
    Calls Tryd.prog 56 #[.slice a xs.length ca, .slice b ys.length cb] w fun e w' => OverR m n w e w' := by
  have HA := Lib.hid ha
  have HBn := Lib.hid hb
  have hcmp := compare_any xs ys a b ca cb m n w ha hb
  clear ha hb
  obtain ⟨L, HL⟩ : ∃ L, Hid (xs.length = L) := ⟨_, Lib.hid rfl⟩
  obtain ⟨M, HM⟩ : ∃ M, Hid (ys.length = M) := ⟨_, Lib.hid rfl⟩
  rw [HL.out, HM.out] at hcmp ⊢
  have sL : L ≤ 300 := by rw [← HL.out]; omega
  have sM : M ≤ 300 := by rw [← HM.out]; omega
  clear hs
  go_enter Tryd.func56, Tryd.ntmps56
  go_wp2_with fail
  refine hcmp.mono ?_
  clear hcmp
  rintro e w1 ⟨r, rfl, hr, d, rfl⟩
  by_cases hlt : m < n
  · have r0 : r < 0 := hr.1.2 hlt
    have HLT := Lib.hid hlt
    clear hr hlt
    go_wp2
    go_ret2
    have e1 := divmod_of (m := m) (Q := 0) (c := m) (p := n) (by omega) HA.out.nonneg HLT.out
    exact ⟨none, 0, [], a, ca, xs, by rw [HL.out]; rfl, by rw [e1.1]; exact NatU.zero_nil, by rw [e1.2]; exact HA.out.later (bw_drewN (bw_refl _) d), bw_drewN (bw_refl _) d⟩
  · have r0 : ¬ r < 0 := fun h => hlt (hr.1.1 h)
    have HLT : Hid (n ≤ m) := Lib.hid (by omega)
    clear hr hlt
    have hML : M ≤ L := by
      have := norm_len HBn.out.dig HA.out.dig HBn.out.norm HA.out.norm (by rw [HBn.out.eq, HA.out.eq]; exact HLT.out)
      rwa [HL.out, HM.out] at this
    obtain ⟨K, HK⟩ : ∃ K, M = K + 1 := ⟨M - 1, by
      have : M ≠ 0 := fun e => by
        obtain rfl : ys = [] := List.eq_nil_of_length_eq_zero (by rw [HM.out]; exact e)
        have := HBn.out.eq
        have e2 : val [] = 0 := rfl
        omega
      omega⟩
    subst HK
    obtain ⟨yv, HY⟩ : ∃ y, Hid (ys.getD K 0 = y) := ⟨_, Lib.hid rfl⟩
    have by' := HBn.out.dig K
    have hy1 : 1 ≤ yv := by
      rcases HBn.out.norm with h | h
      · have := HM.out; omega
      · rw [HM.out, Nat.add_sub_cancel, HY.out] at h
        rw [HY.out] at by'
        omega
    rw [HY.out] at by'
    obtain ⟨s, p, hs1, h31, hp, hp1, hp2⟩ := shift_of hy1 by'.2
    have HP : Hid (P2 s p) := Lib.hid hp
    have hp0 := (show P2 s p from hp).bd h31
    have HNS := norm_shift HBn.out.dig HM.out HBn.out.eq (by rw [HY.out]; exact hp1) (by rw [HY.out]; exact hp2) hp0.1
    obtain ⟨D, HD⟩ : ∃ D, Hid (n * p = D) := ⟨_, Lib.hid rfl⟩
    rw [HD.out] at HNS
    have HNS' := Lib.hid HNS
    have hlz := lz_of (s := s) (w.drewN d) by'.1 by'.2 hs1
    obtain ⟨gy, oy, hay, hgy, hcy⟩ := (HBn.out.later (bw_drewN (bw_refl _) d)).cells (by rw [HM.out]; omega)
    have qy := hcy K (by rw [HM.out]; omega)
    rw [HY.out] at qy
    subst hay
    clear hcy hgy HNS hp hp1 hp2 hs1
    have hup1 := up_any xs a ca m s p (w.drewN d) (HA.out.later (bw_drewN (bw_refl _) d)) (by rw [HL.out]; omega) h31 HP.out
    rw [HL.out] at hup1
    go_wp2_with fail
    refine hlz.mono ?_
    clear hlz
    rintro e w1 ⟨rfl, rfl⟩
    go_wp2_with fail
    refine hup1.mono ?_
    clear hup1
    rintro e w2 ⟨gR, zs, rfl, hb2, hgR, hrow, hzl, hzd, hzv⟩
    have hb2' := bw_call (bw_drewN (bw_refl w) d) hb2
    have hup2 := up_any ys _ cb n s p w2 (HBn.out.later hb2') (by rw [HM.out]; omega) h31 HP.out
    rw [HM.out] at hup2
    have HROW := Lib.hid hrow
    have HZ := Lib.hid (And.intro hzl (And.intro hzd hzv))
    have HB2 := Lib.hid hb2'
    have HGR : Hid (w.heap.size ≤ gR) := Lib.hid (by simpa using hgR)
    clear hb2 hb2' hrow hzl hzd hzv hgR
    go_wp2_with fail
    refine hup2.mono ?_
    clear hup2
    rintro e w3 ⟨gB, us, rfl, hb3, hgB, hrowB, hul, hud, huv⟩
    have htr := trim_same us (some ⟨gB, 0, none⟩) (K + 1 + 1) w3 (hrowB.hasAll _ (by rw [hul]; omega) (by unfold maxLen; omega)) (.inr ⟨_, _, rfl⟩) hud (by rw [hul]; omega)
    rw [hul, huv, HD.out] at htr
    have HGB : Hid (gR < gB) := Lib.hid (by have := HROW.out.lt; omega)
    have HB3 := Lib.hid (bw_call HB2.out hb3)
    have HROW3 := Lib.hid (HROW.out.later hb3)
    clear HROW hb3 hgB hrowB hul hud huv
    go_wp2_with fail
    refine htr.mono ?_
    clear htr
    rintro e w4 ⟨bs, rfl, hbs, rfl⟩
    have hbl : bs.length = K + 1 := len_eq hbs.dig hbs.norm hbs.eq HNS'.out.1 HNS'.out.2
    rw [hbl]
    have HBL := Lib.hid hbl
    have HBS := Lib.hid hbs
    clear hbl hbs
    have hmk : wrap64 (((L : Int) + 1) - ((K : Int) + 1)) = ((L - K : Nat) : Int) := by rw [IntWalk.wrap64_in _ ⟨by omega, by omega⟩]; omega
    go_wp2_with (at_make; go_loud (refine wpMake tU rfl _ _ rfl (L - K) rfl rfl (by omega) (by omega) (by decide) (by omega) ?_); intro w5 hown)
    have HO1 := Lib.hid hown
    clear hown
    obtain ⟨gQ, hgQ⟩ : ∃ g, w4.heap.size = g := ⟨_, rfl⟩
    rw [hgQ] at HO1 ⊢
    have HGQ : Hid (gB < gQ) := Lib.hid (by rw [← hgQ]; exact (HBS.out.has.at).1)
    have HW5 : Hid (RowU w5 gR zs ∧ RowU w5 gQ (List.replicate (L - K) 0) ∧ NatU w5 (some ⟨gB, 0, none⟩) (K + 1 + 1) bs D ∧ Below w.heap.size w w5) := Lib.hid (by
      have hb5 : Below w4.heap.size w4 w5 := by rw [hgQ]; exact HO1.out.below
      exact ⟨HROW3.out.later hb5, HO1.out.rowU.1, HBS.out.later hb5, bw_call HB3.out hb5⟩)
    have HZ5 : Hid (zs.length = L + 1 ∧ Dig zs ∧ (List.replicate (L - K) (0 : Int)).length = L - K ∧ Dig (List.replicate (L - K) 0) ∧ (pk (List.replicate (L - K) 0) (L - K) - pk (List.replicate (L - K) 0) (L - K)) * D + val zs = m * p ∧ val zs < D * bp (L - K)) := Lib.hid (by
      refine ⟨HZ.out.1, HZ.out.2.1, List.length_replicate, dig_zero _, by rw [HZ.out.2.2]; simp, ?_⟩
      rw [HZ.out.2.2]
      have hm := val_lt HA.out.dig
      rw [HL.out, HA.out.eq] at hm
      exact over_first hm HA.out.nonneg hp0.1 hp0.2 HNS'.out.1 (by omega))
    have HTOP := Lib.hid (top_ge HBS.out.dig HBL.out HBS.out.eq HNS'.out.1)
    obtain ⟨t, HT⟩ : ∃ t, Hid (bs.getD K 0 = t) := ⟨_, Lib.hid rfl⟩
    rw [HT.out] at HTOP
    have ht0 : 1 ≤ t ∧ t ≤ 4294967295 := by have := HTOP.out.1; have h2 := HBS.out.dig K; rw [HT.out] at h2; omega
    have hD0 : Hid (0 < D) := Lib.hid (by have := HNS'.out.1; have := bp_pos K; omega)
    go_loopw [11] (fun i wr => ∃ (j : Nat) (zs qs : List Int), j ≤ L - K ∧ i = .int .i64 ((j : Int) - 1) ∧ Hid (zs.length = L + 1 ∧ Dig zs ∧ qs.length = L - K ∧ Dig qs ∧ (pk qs (L - K) - pk qs j) * D + val zs = m * p ∧ val zs < D * bp j) ∧ Hid (RowU wr gR zs ∧ RowU wr gQ qs ∧ NatU wr (some ⟨gB, 0, none⟩) (K + 1 + 1) bs D ∧ Below w.heap.size w wr)) (fun i _ => (intOf i + 1).toNat)
    case atStart => exact ⟨L - K, _, _, Nat.le_refl _, rfl, HZ5, HW5⟩
    case round =>
      clear HZ5 HW5 HZ HROW3 HO1 HB3 HBS
      obtain ⟨j, zs, qs, hj, rfl, hst, hw⟩ := hrel
      match j, hj, hst with
      | 0, hj, hst =>
        obtain ⟨z1, z2, z3, z4, z5, z6⟩ := hst.out
        have hlast := over_last (m := m) (n := n) (p := p) (Q := val qs) (V := val zs) hp0.1 h0 (by rw [HD.out]; unfold val; rw [z3]; simpa [pk, val] using z5) (val_nonneg z2) (by rw [HD.out]; simpa [bp] using z6)
        have HLAST := Lib.hid hlast
        have htr := trim_any zs (some ⟨gR, 0, none⟩) (L + 1) wr (hw.out.1.hasAll _ (by rw [z1]; omega) (by unfold maxLen; omega)) (.inr ⟨_, _, rfl⟩) z2 (by rw [z1]; omega)
        rw [z1] at htr
        have hsm : Hid (val zs < bp (K + 1)) := Lib.hid (by have := HNS'.out.2; simp only [bp, Int.mul_one] at z6; rw [bp] at this ⊢; omega)
        clear z1 z2 z4 z5 z6 hlast
        go_wp2_with fail
        refine htr.mono ?_
        clear htr
        rintro e w6 ⟨a6, c6, x6, rfl, hn6, hb6⟩
        have hdn := down_any x6 a6 c6 _ s p w6 hn6 (by have := hn6.lenle hsm.out; omega) h31 HP.out
        have HB6 := Lib.hid hb6
        clear hn6 hb6
        go_wp2_with fail
        refine hdn.mono ?_
        clear hdn
        rintro e w7 ⟨a7, c7, x7, rfl, hb7, hn7⟩
        have hb67 := HB6.out.trans (hb7.mono HB6.out.size)
        have htq := trim_any qs (some ⟨gQ, 0, none⟩) (L - K) w7 ((hw.out.2.1.later hb67).hasAll _ (by rw [hst.out.2.2.1]; omega) (by unfold maxLen; omega)) (.inr ⟨_, _, rfl⟩) hst.out.2.2.2.1 (by rw [hst.out.2.2.1]; omega)
        rw [hst.out.2.2.1] at htq
        have HB7 := Lib.hid (bw_call hw.out.2.2.2 hb67)
        have HN7 := Lib.hid hn7
        clear hb7 hb67 hn7 HB6
        go_wp2_with fail
        refine htq.mono ?_
        clear htq
        rintro e w8 ⟨a8, c8, x8, rfl, hn8, hb8⟩
        go_wp2
        go_ret2
        exact ⟨a8, c8, x8, a7, c7, x7, rfl, by rw [HLAST.out.1]; exact hn8, by rw [HLAST.out.2]; exact HN7.out.later hb8, bw_call HB7.out hb8⟩
      | k + 1, hj, hst =>
        have ek : ((k + 1 : Nat) : Int) - 1 = (k : Int) := by omega
        rw [ek]
        clear ek
        have r0 : (0 : Int) ≤ (k : Int) := by omega
        have r1 : (k : Int) < (L : Int) - K := by omega
        have qt := hw.out.2.2.1.has.at.2 K (by rw [HBL.out]; omega)
        rw [Nat.zero_add, HT.out] at qt
        obtain ⟨z1, HZ1⟩ : ∃ z, Hid (zs.getD (k + (K + 1)) 0 = z) := ⟨_, Lib.hid rfl⟩
        obtain ⟨z2, HZ2⟩ : ∃ z, Hid (zs.getD (k + K) 0 = z) := ⟨_, Lib.hid rfl⟩
        have bz1 := hst.out.2.1 (k + (K + 1))
        have bz2 := hst.out.2.1 (k + K)
        have qz1 := hw.out.1.cell (k + (K + 1)) (by rw [hst.out.1]; omega)
        have qz2 := hw.out.1.cell (k + K) (by rw [hst.out.1]; omega)
        rw [HZ1.out] at bz1 qz1
        rw [HZ2.out] at bz2 qz2
        obtain ⟨W, HW⟩ : ∃ W, Hid (val ((zs.drop k).take (K + 1 + 1)) = W) := ⟨_, Lib.hid rfl⟩
        have hwin := win_bd hst.out.2.1 hst.out.1 (by omega) hst.out.2.2.2.2.2 hD0.out HW.out
        obtain ⟨q, HQ⟩ : ∃ q, Hid (W / D = q) := ⟨_, Lib.hid rfl⟩
        obtain ⟨tv, htv⟩ : ∃ t, t = z1 * 4294967296 + z2 := ⟨_, rfl⟩
        have hest : q ≤ tv / t := by
          obtain ⟨low, l1, l2, l3⟩ := win_top (win := (zs.drop k).take (K + 1 + 1)) (N := K) ((hst.out.2.1.drop k).take _) (by rw [List.length_take, List.length_drop, hst.out.1]; omega)
          rw [HW.out, getD_take _ _ _ (by omega), getD_take _ _ _ (by omega), getD_drop, getD_drop, HZ1.out, HZ2.out, ← htv] at l1
          rw [← HQ.out]
          exact est_ge l1 l3 (bp_pos K) HTOP.out.2 ht0.1 hD0.out hwin.1
        rw [HQ.out] at hwin
        have v1 : IntKind.u64.wrap (z1 * 4294967296) = z1 * 4294967296 := by rw [IntKind.wrap_u64]; omega
        have v2 : bits .or .u64 (z1 * 4294967296) z2 = tv := by rw [u64_or_low bz2.1 (by omega) (by omega) (by omega), htv]
        have bt : 0 ≤ tv ∧ tv ≤ 18446744073709551615 := by omega
        have x1 : 0 ≤ (k : Int) + (K + 1) ∧ (k : Int) + (K + 1) < (L : Int) + 1 := by omega
        have x2 : 0 ≤ (k : Int) + (K + 1) - 1 ∧ (k : Int) + (K + 1) - 1 < (L : Int) + 1 := by omega
        have hz0 : (t == 0) = false := beq_eq_false_iff_ne.2 (by omega)
        clear htv
        go_wp2
        go_quiet (fail)
        go_wp2
        go_loopw [13] (fun v wq => ∃ dg : Int, v = .int .u64 dg ∧ (q ≤ dg ∧ dg ≤ 4294967295) ∧ Hid (RowU wq gR zs ∧ RowU wq gQ qs ∧ NatU wq (some ⟨gB, 0, none⟩) (K + 1 + 1) bs D ∧ Below w.heap.size w wq)) (fun v _ => (intOf v).toNat)
        case atStart => exact ⟨_, rfl, ⟨by omega, by omega⟩, Lib.hid ⟨hw.out.1.later (bw_drewN (bw_refl _) _), hw.out.2.1.later (bw_drewN (bw_refl _) _), hw.out.2.2.1.later (bw_drewN (bw_refl _) _), bw_drewN hw.out.2.2.2 _⟩⟩
        case round =>
          clear hw hest v1 v2 bt qt qz1 qz2 hz0
          obtain ⟨dg, rfl, hdg, hw⟩ := hrel
          have v6 : IntKind.i64.wrap dg = dg := by rw [IntKind.wrap_i64]; omega
          have hno := naturalOf_any dg wr (by omega) (by omega)
          go_wp2_with fail
          refine hno.mono ?_
          clear hno
          rintro e w6 ⟨a6, c6, x6, rfl, hn6, hb6⟩
          have htm := times_any bs x6 (some ⟨gB, 0, none⟩) a6 (K + 1 + 1) c6 D dg w6 (hw.out.2.2.1.later hb6) hn6 ⟨by rw [HBL.out]; omega, by have := hn6.lenle (k := 1) (by simp [bp]; omega); omega⟩
          rw [HBL.out] at htm
          have HB6 := Lib.hid hb6
          clear hb6 hn6
          go_wp2_with fail
          refine htm.mono ?_
          clear htm
          rintro e w7 ⟨a7, c7, x7, rfl, hn7, hb7⟩
          have hb67 := HB6.out.trans (hb7.mono HB6.out.size)
          have HW7 : Hid (RowU w7 gR zs ∧ RowU w7 gQ qs ∧ NatU w7 (some ⟨gB, 0, none⟩) (K + 1 + 1) bs D ∧ Below w.heap.size w w7) := Lib.hid ⟨hw.out.1.later hb67, hw.out.2.1.later hb67, hw.out.2.2.1.later hb67, bw_call hw.out.2.2.2 hb67⟩
          have HN7 := Lib.hid hn7
          clear hb67 hb7 hn7 HB6 hw
          obtain ⟨win, HWIN⟩ : ∃ win, Hid ((zs.drop k).take (K + 1 + 1) = win) := ⟨_, Lib.hid rfl⟩
          have HWL : Hid (win.length = K + 1 + 1) := Lib.hid (by rw [← HWIN.out, List.length_take, List.length_drop, hst.out.1]; omega)
          have hcl := clone_any win gR k (L + 1 - k) w7 (by rw [← HWIN.out]; exact HW7.out.1.hasU k (K + 1 + 1) _ (by rw [hst.out.1]; omega) (by omega) (by unfold maxLen; omega)) (by rw [HWL.out]; omega)
          rw [HWL.out] at hcl
          have y0 : (k : Int) + (K + 1) + 1 ≤ (L : Int) + 1 := by omega
          have eK : k + (K + 1) + 1 - k = K + 1 + 1 := by omega
          go_wp2_with fail
          rw [eK]
          refine hcl.mono ?_
          clear hcl
          rintro e w8 ⟨a8, c8, rfl, hu8, hs8, hb8⟩
          have HWD : Hid (Dig win ∧ val win = W) := Lib.hid ⟨by rw [← HWIN.out]; exact (hst.out.2.1.drop k).take _, by rw [← HWIN.out]; exact HW.out⟩
          have htr := trim_any win a8 c8 w8 hu8 hs8 HWD.out.1 (by rw [HWL.out]; omega)
          rw [HWL.out, HWD.out.2] at htr
          have HB8 := Lib.hid hb8
          clear hu8 hs8 hb8
          go_wp2_with fail
          refine htr.mono ?_
          clear htr
          rintro e w9 ⟨a9, c9, x9, rfl, hn9, hb9⟩
          have hb79 := HB8.out.trans (hb9.mono HB8.out.size)
          have hcmp := compare_any x7 x9 a7 a9 c7 c9 (D * dg) W w9 (HN7.out.later hb79) hn9
          have HB9 := Lib.hid hb79
          clear hb9 hb79 hn9 HB8
          go_wp2_with fail
          refine hcmp.mono ?_
          clear hcmp
          rintro e w10 ⟨r2, rfl, hr2, d2, rfl⟩
          have hb10 : Below w7.heap.size w7 (w9.drewN d2) := bw_drewN HB9.out d2
          have HW10 : Hid (RowU (w9.drewN d2) gR zs ∧ RowU (w9.drewN d2) gQ qs ∧ NatU (w9.drewN d2) (some ⟨gB, 0, none⟩) (K + 1 + 1) bs D ∧ Below w.heap.size w (w9.drewN d2)) := Lib.hid ⟨HW7.out.1.later hb10, HW7.out.2.1.later hb10, HW7.out.2.2.1.later hb10, bw_call HW7.out.2.2.2 hb10⟩
          have HN10 := Lib.hid (HN7.out.later hb10)
          clear hb10 HB9 HW7 HN7
          by_cases hle : D * dg ≤ W
          · have y1 : r2 ≤ 0 := by
              by_cases h : r2 ≤ 0
              · exact h
              · have := hr2.2.2.1.1 (by omega); omega
            have hdq : dg = q := by
              rw [← HQ.out]
              exact guess_eq hD0.out (by rw [HQ.out]; exact hdg.1) (by rw [Int.mul_comm]; exact hle)
            subst hdq
            have HLE := Lib.hid hle
            clear hr2 hle
            have hmn := minus_new win x7 (some ⟨gR, k, none⟩) a7 (L + 1 - k) c7 (D * dg) (w9.drewN d2) (by rw [← HWIN.out]; exact HW10.out.1.hasU k (K + 1 + 1) _ (by rw [hst.out.1]; omega) (by omega) (by unfold maxLen; omega)) (.inr ⟨_, _, rfl⟩) HWD.out.1 HN10.out (by rw [HWL.out]; omega) (by
              rw [HWL.out]
              refine HN10.out.lenle ?_
              have := val_lt HWD.out.1
              rw [HWL.out, HWD.out.2] at this
              have := HLE.out
              omega) (by rw [HWD.out.2]; exact HLE.out)
            rw [HWL.out, HWD.out.2] at hmn
            go_wp2_with fail
            rw [eK]
            refine hmn.mono ?_
            clear hmn
            rintro e w11 ⟨a11, c11, ls, rfl, hn11, hb11, hf11⟩
            have hrow11 := HW10.out.1.later hb11
            have HN11 := Lib.hid hn11
            have HF11 := Lib.hid hf11
            have HB11 := Lib.hid hb11
            clear hn11 hb11 hf11
            have HR11 := Lib.hid hrow11
            clear hrow11
            have HLS : Hid (ls.length ≤ K + 1 + 1) := Lib.hid (by
              refine Nat.le_succ_of_le (HN11.out.lenle ?_)
              have h1 := Int.emod_lt_of_pos W hD0.out
              have h2 := Int.mul_ediv_add_emod W D
              rw [HQ.out] at h2
              have := HNS'.out.2
              omega)
            have HST : Hid ((splice (splice zs k (List.replicate (K + 1 + 1) 0)) k ls).length = L + 1 ∧ Dig (splice (splice zs k (List.replicate (K + 1 + 1) 0)) k ls) ∧ (qs.set k dg).length = L - K ∧ Dig (qs.set k dg) ∧ (pk (qs.set k dg) (L - K) - pk (qs.set k dg) k) * D + val (splice (splice zs k (List.replicate (K + 1 + 1) 0)) k ls) = m * p ∧ val (splice (splice zs k (List.replicate (K + 1 + 1) 0)) k ls) < D * bp k) := Lib.hid (by
              obtain ⟨z1, z2, z3, z4, z5, z6⟩ := hst.out
              obtain ⟨f1, f2, f3, f4⟩ := div_step (N := K + 1) z2 z1 (by omega) z6 hD0.out HNS'.out.2 HW.out HN11.out.dig HLS.out (by rw [HN11.out.eq, HQ.out, Int.mul_comm])
              refine ⟨f1, f2, by rw [List.length_set]; exact z3, z4.set k (by omega) (by omega), ?_, f4⟩
              rw [f3, HQ.out, pk_set_below (by rw [z3]; omega) (by omega), pk_set _ _ _ (by rw [z3]; omega) k (Nat.le_refl _)]
              rw [pk] at z5
              exact over_sum z5)
            obtain ⟨Z1, HZZ⟩ : ∃ Z, Hid (splice zs k (List.replicate (K + 1 + 1) 0) = Z) := ⟨_, Lib.hid rfl⟩
            obtain ⟨Z2, HZZ2⟩ : ∃ Z, Hid (splice Z1 k ls = Z) := ⟨_, Lib.hid rfl⟩
            rw [HZZ.out, HZZ2.out] at HST
            have HL1 : Hid (Z1.length = L + 1) := Lib.hid (by rw [← HZZ.out, length_splice _ _ _ (by rw [List.length_replicate, hst.out.1]; omega)]; exact hst.out.1)
            have v7 : IntKind.u32.wrap dg = dg := by rw [IntKind.wrap_u32]; omega
            have y2 : (k : Int) < ((L - K : Nat) : Int) := by omega
            obtain ⟨ov, HOV⟩ : ∃ o, Hid (qs.getD k 0 = o) := ⟨_, Lib.hid rfl⟩
            go_wp2_with (first
              | (refine wpClear rfl (.tmp 109) rfl rfl HR11.out (by omega) (by rw [hst.out.1]; omega) ?_; intro w12 hr12 hu12; rw [eK, HZZ.out] at hr12; have HR12 := Lib.hid hr12; have HU12 := Lib.hid hu12; clear hr12 hu12)
              | (refine wpCopyU rfl (.tmp 112) (.tmp 113) rfl rfl rfl HR12.out (HN11.out.has.upd HU12.out (fun g' o e => by have h1 := HF11.out g' o e; have h2 := HW10.out.1.lt; omega)) HN11.out.spot (by have := HLS.out; omega) (by rw [HL1.out]; omega) ?_
                 intro w13 hr13 hu13
                 rw [HZZ2.out] at hr13
                 have HW13 : Hid (RowU w13 gR Z2 ∧ RowU w13 gQ qs ∧ NatU w13 (some ⟨gB, 0, none⟩) (K + 1 + 1) bs D ∧ Below w.heap.size w w13) := Lib.hid (by
                   have g1 := HGB.out
                   have g2 := HGQ.out
                   have g3 := HGR.out
                   refine ⟨hr13, ((HW10.out.2.1.later HB11.out).upd HU12.out (by omega)).upd hu13 (by omega), ((HW10.out.2.2.1.later HB11.out).upd HU12.out ?_).upd hu13 ?_, ?_⟩
                   · intro g' o e; cases e; omega
                   · intro g' o e; cases e; omega
                   · exact ((bw_call HW10.out.2.2.2 HB11.out).trans (HU12.out.below g3)).trans (hu13.below g3))
                 have q1 := HW13.out.2.1.cell k (by rw [hst.out.2.2.1]; omega)
                 have q2 := HW13.out.2.1.free k
                 rw [HOV.out] at q1
                 clear hr13 hu13))
            go_roundw
            case rel =>
              refine ⟨k, Z2, qs.set k dg, by omega, by go_num, HST, Lib.hid ?_⟩
              have g1 := HGB.out
              have g2 := HGQ.out
              have g3 := HGR.out
              refine ⟨HW13.out.1.upd (Upd.setCell _ _ _ _) (by omega), HW13.out.2.1.set k dg, HW13.out.2.2.1.upd (Upd.setCell _ _ _ _) ?_, HW13.out.2.2.2.trans ((Upd.setCell _ _ _ _).below (by omega))⟩
              intro g' o e
              cases e
              omega
            case measure => simp [intOf] <;> omega
          · have hgt : W < D * dg := by omega
            have y1 : ¬ r2 ≤ 0 := by
              have := hr2.2.2.1.2 hgt
              omega
            have hqd : q + 1 ≤ dg := by
              by_cases c : dg = q
              · exfalso
                have := Int.ediv_mul_le W (show D ≠ 0 by have := hD0.out; omega)
                rw [HQ.out, ← c, Int.mul_comm] at this
                omega
              · omega
            clear hr2 hle hgt
            go_wp2
            refine ⟨?_, ?measure⟩
            (repeat apply Exists.intro)
            refine ⟨?rel, rfl⟩
            case rel => exact ⟨dg - 1, by go_num, ⟨by omega, by omega⟩, HW10⟩
            case measure => simp [intOf] <;> omega
end Go.Proofs.YthkmhpkoanmbkaaDoor
