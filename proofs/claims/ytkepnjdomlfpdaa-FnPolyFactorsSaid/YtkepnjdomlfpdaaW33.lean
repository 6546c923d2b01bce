/-
  Walk of the law FnPolyFactors: it returns true for every argument. No condition.
-/
import Derived.Test.YtkepnjdomlfpdaaW32
import Derived.Test.YtkepnjdomlfpdaaC24
namespace Go.Proofs.Ytkepnjdomlfpdaa
open Go.RowKit
set_option linter.unusedVariables false

theorem GcdPolys_of {a b g : Nat} (w : World) (ha : a < 4294967296) (hb : b < 4294967296) (hg : Hid (gcp a b = g)) :
    Calls Try.prog 25 #[.int .i64 a, .int .i64 b] w fun e w' => e = .returned (.tuple #[.int .i64 (g : Nat), .bool true]) ∧ Below w.heap.size w w' := by
  have h := GcdPolys_any (a : Int) (b : Int) w
  have hh : gcdB (a : Int) (b : Int) = true := by
    unfold gcdB
    rw [plB_yes ha, plB_yes hb]; rfl
  have hvv : gcdV (a : Int) (b : Int) = (g : Int) := by
    unfold gcdV
    rw [if_pos hh]
    simp only [Int.toNat_natCast]
    rw [hg.out]
  rwa [hh, hvv] at h
theorem FactorsOf_of {p : Nat} {xs : List Int} (w : World) (h1 : 1 ≤ p) (h2 : p ≤ 131071) (hx : Hid ((fc 2 p).map Int.ofNat = xs)) :
    Calls Try.prog 27 #[.int .i64 p] w (RetL xs true w) := by
  have h := FactorsOf_any (p : Int) w
  have hr : inR (p : Int) 1 131071 = true := inR_mk (by omega) (by omega)
  rwa [foL_yes hr, hr, hx.out] at h
theorem dvp_lt {g a : Nat} (h : Dvp g a) (ha : a ≠ 0) (hb : a < 65536) : g < 65536 ∧ 0 < g := by
  have h1 := h.bl_le ha
  have h2 : bl a ≤ 16 := bl_le (by simpa using hb)
  have h3 := bl_lt g
  have h4 : 2 ^ bl g ≤ 2 ^ 16 := Nat.pow_le_pow_right (by decide) (by omega)
  exact ⟨by omega, h.pos ha⟩
theorem map_getD (l : List Nat) (j : Nat) : (l.map Int.ofNat).getD j 0 = ((l.getD j 0 : Nat) : Int) := by
  simp only [List.getD, List.getElem?_map]
  cases l[j]? <;> rfl
/-- What a trial division has found, told of the list. -/
structure Facts (P : Nat) (l : List Nat) : Prop where
  each : ∀ j, j < l.length → 2 ≤ l.getD j 0 ∧ l.getD j 0 < 65536 ∧ fc 2 (l.getD j 0) = [l.getD j 0]
  up : ∀ j, j + 1 < l.length → l.getD j 0 ≤ l.getD (j + 1) 0
  part : ∀ j, (l.take j).foldl mulp 1 < 65536
  next : ∀ j, j < l.length → mulp ((l.take j).foldl mulp 1) (l.getD j 0) = (l.take (j + 1)).foldl mulp 1
  all : (l.take l.length).foldl mulp 1 = P
  len : l.length < 1000000000000
theorem facts_of {P : Nat} (h1 : 1 ≤ P) (h2 : P < 65536) : Facts P (fc 2 P) := by
  have H := fc_ok 2 P (Nat.le_refl _) h1 (fun g g1 g2 => by omega)
  have hm : ∀ j, j < (fc 2 P).length → (fc 2 P).getD j 0 ∈ fc 2 P := fun j hj => by
    rw [List.getD_eq_getElem?_getD, List.getElem?_eq_getElem hj]
    exact List.getElem_mem _
  refine ⟨fun j hj => ?_, H.up, fun j => ?_, fun j hj => ?_, ?_, ?_⟩
  · obtain ⟨a1, a2, a3⟩ := H.each _ (hm j hj)
    exact ⟨a1, (dvp_lt a3 (by omega) h2).1, a2⟩
  · have h3 := foldl_dvp (fc 2 P) 1 j
    rw [H.all, one_mulp P P (Nat.le_refl _)] at h3
    exact (dvp_lt h3 (by omega) h2).1
  · rw [List.take_succ_eq_append_getElem hj, List.foldl_append]
    simp [List.getD, hj]
  · rw [List.take_length, H.all, one_mulp P P (Nat.le_refl _)]
  · have := fc_len 2 P; omega
set_option maxRecDepth 100000 in
set_option maxHeartbeats 1000000 in
theorem FnPolyFactors_walk (a0 : Option Addr) (len0 cap0 : Nat) (z0 : List Int) (a1 : Option Addr) (len1 cap1 : Nat) (z1 : List Int) (w : World) (w0 : IsRow .u8 w a0 len0 cap0 z0) (w1 : IsRow .u8 w a1 len1 cap1 z1) :
    Calls Try.prog 12 #[.slice a0 len0 cap0, .slice a1 len1 cap1] w fun e w' => e = .returned (.bool true) ∧ Below w.heap.size w w' := by
  obtain ⟨g0, _, _⟩ := w0.len_le
  obtain ⟨g1, _, _⟩ := w1.len_le
  cases hl : lon8 len0 len1 with
  | true =>
    clear w0 w1
    go_enter Try.func12, Try.ntmps12
    go_wp2_with (go_at_call 33; refine (r8Long_of g0 g1 hl).mono ?_; rintro e w' ⟨rfl, rfl⟩)
    go_ret
    exact ⟨rfl, bw_refl _⟩
  | false =>
    have HW0 := Lib.hid w0
    have HW1 := Lib.hid w1
    clear w0 w1
    go_enter Try.func12, Try.ntmps12
    go_wp2_with fail
    refine (r8Long_of g0 g1 hl).mono ?_
    rintro e w' ⟨rfl, rfl⟩
    go_wp2_with fail
    refine (R8Number_any a0 len0 cap0 z0 60000 _ HW0.out (by omega) (by omega)).mono ?_
    rintro e w2 ⟨x, rfl, x0, x1, hb2⟩
    have B2 := Lib.hid hb2
    have HM := Lib.hid (HW1.out.below hb2)
    clear hb2
    obtain ⟨X, rfl⟩ := Int.eq_ofNat_of_zero_le x0
    obtain ⟨P, hP⟩ : ∃ P, P = 1 + X := ⟨_, rfl⟩
    have hP2 : (1 : Int) + (X : Int) = (P : Int) := by omega
    have P0 : 1 ≤ P ∧ P ≤ 60000 := by omega
    clear hP
    have HF := Lib.hid (facts_of (P := P) P0.1 (by omega))
    obtain ⟨l, HLL⟩ : ∃ l, Hid (fc 2 P = l) := ⟨_, Lib.hid rfl⟩
    obtain ⟨xs, HXS⟩ : ∃ xs, Hid ((fc 2 P).map Int.ofNat = xs) := ⟨_, Lib.hid rfl⟩
    rw [HLL.out] at HF
    have HXL : Hid (∀ j, xs.getD j 0 = ((l.getD j 0 : Nat) : Int)) := Lib.hid (fun j => by rw [← HXS.out, HLL.out]; exact map_getD l j)
    have HLEN : Hid (xs.length = l.length) := Lib.hid (by rw [← HXS.out, HLL.out, List.length_map])
    obtain ⟨L, HL⟩ : ∃ L, Hid (l.length = L) := ⟨_, Lib.hid rfl⟩
    have lL : L < 1000000000000 := by rw [← HL.out]; exact HF.out.len
    go_wp2_with fail
    refine (FactorsOf_of w2 P0.1 (by omega) HXS).mono ?_
    rintro e w3 ⟨la, lc, rfl, hlist, hb3⟩
    rw [show xs.length = L by rw [HLEN.out, HL.out]]
    have HLI := Lib.hid hlist
    have B3 := Lib.hid (bw_call B2.out hb3)
    have HM3 := Lib.hid (HM.out.below hb3)
    clear hlist hb3
    go_wp2_with fail
    go_loopw [8, 9] (fun v i wr => ∃ (k : Nat) (V : Nat), k ≤ L ∧ i = .int .i64 k ∧ v = .int .i64 V ∧ Hid ((l.take k).foldl mulp 1 = V) ∧ V < 65536 ∧ Hid (HasL w2.heap.size wr la lc xs) ∧ Hid (Below w.heap.size w wr) ∧ Hid (IsRow .u8 wr a1 len1 cap1 z1)) (fun _ i _ => L - (intOf i).toNat)
    case atStart => exact ⟨0, 1, Nat.zero_le _, rfl, rfl, Lib.hid rfl, by omega, HLI, B3, HM3⟩
    case round =>
      obtain ⟨k, V, hk, rfl, rfl, hV, hV2, hli, hB, hM⟩ := hrel
      by_cases hkL : k < L
      · obtain ⟨g, rfl, _, _, hc, _⟩ := hli.out.cells (by rw [HLEN.out, HL.out]; omega)
        have HCC : Hid (∀ j, j < L → wr.cell? ⟨g, j, none⟩ = some (.int .i64 ((l.getD j 0 : Nat) : Int))) := Lib.hid (fun j hj => by
          rw [hc j (by rw [HLEN.out, HL.out]; exact hj), HXL.out])
        clear hc
        obtain ⟨f1, f2, f3⟩ := HF.out.each k (by rw [HL.out]; exact hkL)
        have hnx := HF.out.next k (by rw [HL.out]; exact hkL)
        have hpt := HF.out.part (k + 1)
        have hup : ∀ j, j + 1 = k → l.getD j 0 ≤ l.getD k 0 := fun j hj => by
          subst hj
          exact HF.out.up j (by rw [HL.out]; omega)
        have HUP := Lib.hid hup
        obtain ⟨f, hf⟩ : ∃ f, Hid (l.getD k 0 = f) := ⟨_, Lib.hid rfl⟩
        rw [hf.out] at f1 f2 f3 hnx
        have HF3 : Hid ((fc 2 f).map Int.ofNat = [(f : Int)]) := Lib.hid (by rw [f3]; rfl)
        obtain ⟨V', HV'⟩ : ∃ f, Hid ((l.take (k + 1)).foldl mulp 1 = f) := ⟨_, Lib.hid rfl⟩
        rw [hV.out, HV'.out] at hnx
        rw [HV'.out] at hpt
        have HNX := Lib.hid hnx
        have q1 := HCC.out k hkL
        rw [hf.out] at q1
        have r0 : (0 : Int) ≤ (k : Int) := by omega
        have r1 : (k : Int) < (L : Int) := by omega
        clear f3 hnx hup
        go_wp2_with fail
        refine (FactorsOf_of wr (by omega) (by omega) HF3).mono ?_
        rintro e w4 ⟨oa, oc, rfl, hown, hb4⟩
        obtain ⟨og, rfl, _, _, hoc, _⟩ := hown.cells (by simp)
        have qo := hoc 0 (by simp)
        simp at qo
        have HB4 := Lib.hid (bw_call hB.out hb4)
        have HM4 := Lib.hid (hM.out.below hb4)
        have HL4 := Lib.hid (hli.out.later hb4)
        have q2 := (hb4.cell (p := ⟨g, k, none⟩) (World.block_lt_of_cell? wr _ q1)).trans q1
        have HQ3 : Hid (∀ j, j + 1 = k → w4.cell? ⟨g, j, none⟩ = some (.int .i64 ((l.getD j 0 : Nat) : Int))) := Lib.hid (fun j hj => by
          have := HCC.out j (by omega)
          exact (hb4.cell (p := ⟨g, j, none⟩) (World.block_lt_of_cell? wr _ this)).trans this)
        clear hown hoc
        go_wp2_with fail
        refine (MulPolys_of w4 (by omega) (by omega) HNX (by omega)).mono ?_
        rintro e w5 ⟨rfl, hb5⟩
        have HB5 := Lib.hid (bw_call HB4.out hb5)
        have HM5 := Lib.hid (HM4.out.below hb5)
        have HL5 := Lib.hid (HL4.out.later hb5)
        have q3 := (hb5.cell (p := ⟨g, k, none⟩) (World.block_lt_of_cell? w4 _ q2)).trans q2
        have qo5 := (hb5.cell (p := ⟨og, 0, none⟩) (World.block_lt_of_cell? w4 _ qo)).trans qo
        have HQ4 : Hid (∀ j, j + 1 = k → w5.cell? ⟨g, j, none⟩ = some (.int .i64 ((l.getD j 0 : Nat) : Int))) := Lib.hid (fun j hj => by
          have := HQ3.out j hj
          exact (hb5.cell (p := ⟨g, j, none⟩) (World.block_lt_of_cell? w4 _ this)).trans this)
        clear hb4 hb5 q1 q2 qo HQ3
        have HFB := Lib.hid (And.intro f1 (And.intro f2 (And.intro hpt hV2)))
        have HLB := Lib.hid lL
        clear f1 f2 hpt hV2 lL
        by_cases hk0 : k = 0
        · subst hk0
          clear HQ4 HUP
          go_wp2
          go_quiet (fail)
          go_wp2
          go_roundw
          case rel => exact ⟨1, V', by omega, by go_num, rfl, HV', HFB.out.2.2.1, Lib.hid (HL5.out.later (bw_drewN (bw_refl _) _)), Lib.hid (bw_drewN HB5.out _), Lib.hid (HM5.out.below (bw_drewN (bw_refl _) _))⟩
          case measure => simp [intOf] <;> omega
        · obtain ⟨j, hj⟩ : ∃ j, j + 1 = k := ⟨k - 1, by omega⟩
          have q4 := HQ4.out j hj
          have hle := HUP.out j hj
          rw [hf.out] at hle
          obtain ⟨fp, hfp⟩ : ∃ f, Hid (l.getD j 0 = f) := ⟨_, Lib.hid rfl⟩
          rw [hfp.out] at hle q4
          have ej : (k : Int) - 1 = (j : Int) := by omega
          have hnlt : ¬ (f : Int) < (fp : Int) := by omega
          have hn2 : decide (f < fp) = false := decide_eq_false (by omega)
          have r2 : (0 : Int) ≤ (j : Int) := by omega
          have r3 : (j : Int) < (L : Int) := by omega
          have r4 : (0 : Int) < (k : Int) := by omega
          have r5 : 0 < k := by omega
          have r6 : decide ((0 : Int) < (k : Int)) = true := decide_eq_true r4
          have wj : IntKind.i64.wrap (j : Int) = (j : Int) := by rw [IntKind.wrap_i64]; have := HLB.out; omega
          have HK := Lib.hid hj
          have HK1 : Hid (k + 1 ≤ L ∧ wrap64 ((k : Int) + 1) = ((k + 1 : Nat) : Int)) := Lib.hid ⟨by omega, by have := HLB.out; rw [IntWalk.wrap64_in _ ⟨by omega, by omega⟩]; omega⟩
          clear HQ4 HUP hle hk0 hj
          go_wp2
          go_quiet (fail)
          clear wj ej r2 r3 hnlt r4 r5 r6 q3 q4 qo5
          go_wp2
          go_roundw
          case rel => exact ⟨k + 1, V', HK1.out.1, vi64 HK1.out.2, rfl, HV', HFB.out.2.2.1, Lib.hid (HL5.out.later (bw_drewN (bw_refl _) _)), Lib.hid (bw_drewN HB5.out _), Lib.hid (HM5.out.below (bw_drewN (bw_refl _) _))⟩
          case measure =>
            have h1 := HK1.out.1
            rw [HK1.out.2]
            simp [intOf] <;> omega
      · have hke : k = L := by omega
        subst hke
        have hVP : V = P := by rw [← hV.out, ← HL.out]; exact HF.out.all
        subst hVP
        clear hV
        go_wp2_with fail
        refine (R8Number_any a1 len1 cap1 z1 3000 _ hM.out (by omega) (by omega)).mono ?_
        rintro e w6 ⟨y, rfl, y0, y1, hb6⟩
        have B6 := Lib.hid (bw_call hB.out hb6)
        clear hb6
        obtain ⟨Y, rfl⟩ := Int.eq_ofNat_of_zero_le y0
        obtain ⟨q, hq⟩ : ∃ q, q = 1 + Y := ⟨_, rfl⟩
        have hq2 : (1 : Int) + (Y : Int) = (q : Int) := by omega
        have qb : 1 ≤ q ∧ q ≤ 3000 := by omega
        obtain ⟨Q, HQ⟩ : ∃ A, Hid (qt q V = A) := ⟨_, Lib.hid rfl⟩
        obtain ⟨R, HR⟩ : ∃ A, Hid (md q V = A) := ⟨_, Lib.hid rfl⟩
        obtain ⟨M, HMM⟩ : ∃ A, Hid (mulp Q q = A) := ⟨_, Lib.hid rfl⟩
        obtain ⟨G, HG⟩ : ∃ A, Hid (gcp V q = A) := ⟨_, Lib.hid rfl⟩
        have HSUM : Hid (M ^^^ R = V) := Lib.hid (by rw [← HMM.out, ← HQ.out, ← HR.out, mulpC]; exact md_sum (by omega) V)
        have hRb : bl R < bl q := by rw [← HR.out]; exact md_res (by omega) V
        have lR : R < 4096 := by
          have h1 := bl_lt R
          have h2 : bl q ≤ 12 := bl_le (by omega)
          have h3 : 2 ^ bl R ≤ 2 ^ 12 := Nat.pow_le_pow_right (by decide) (by omega)
          omega
        have lM : M < 65536 := by
          have e : M = V ^^^ R := by rw [← HSUM.out, Nat.xor_assoc, Nat.xor_self, Nat.xor_zero]
          rw [e]
          exact Nat.xor_lt_two_pow (n := 16) (by omega) (by omega)
        have hgd := gcp_dvd q V q (Nat.le_refl _)
        rw [HG.out] at hgd
        have lG := dvp_lt hgd.1 (by omega) (by omega)
        have lQ : Q < 65536 := by
          by_cases c : M = 0
          · by_cases c2 : Q = 0
            · omega
            · exact absurd (HMM.out.trans c) (blm c2 (by omega)).1
          · exact (dvp_lt (a := M) ⟨q, HMM.out.symm⟩ c lM).1
        have HZ1 : Hid (md G V = 0) := Lib.hid ((dvp_iff lG.2).2 hgd.1)
        have HZ2 : Hid (md G q = 0) := Lib.hid ((dvp_iff lG.2).2 hgd.2)
        obtain ⟨S1, HS1⟩ : ∃ A, Hid (qt G V = A) := ⟨_, Lib.hid rfl⟩
        obtain ⟨S2, HS2⟩ : ∃ A, Hid (qt G q = A) := ⟨_, Lib.hid rfl⟩
        have hxor : bits .xor .i64 (M : Int) (R : Int) = (V : Int) := by
          rw [i64_xor_nat M R (by omega) (by omega), HSUM.out]
        have bR : (bl R : Int) - 1 < (bl q : Int) - 1 := by omega
        obtain ⟨bR1, hbR1⟩ : ∃ b : Int, Hid ((bl R : Int) - 1 = b) := ⟨_, Lib.hid rfl⟩
        obtain ⟨bQ1, hbQ1⟩ : ∃ b : Int, Hid ((bl q : Int) - 1 = b) := ⟨_, Lib.hid rfl⟩
        rw [hbR1.out, hbQ1.out] at bR
        have hD1 := r8Degree_any R
        have hD2 := r8Degree_any q
        rw [hbR1.out] at hD1
        rw [hbQ1.out] at hD2
        have HD1 := Lib.hid hD1
        have HD2 := Lib.hid hD2
        clear hq hgd hD1 hD2 hRb
        go_wp2_with fail
        refine (DividePolys_of w6 (by omega) (by omega) (by omega) HQ HR).mono ?_
        rintro e w7 ⟨rfl, hb7⟩
        have B7 := Lib.hid (bw_call B6.out hb7)
        clear hb7
        go_wp2_with fail
        refine (MulPolys_of w7 (by omega) (by omega) HMM (by omega)).mono ?_
        rintro e w8 ⟨rfl, hb8⟩
        have B8 := Lib.hid (bw_call B7.out hb8)
        clear hb8
        go_wp2_with fail
        refine (GcdPolys_of w8 (by omega) (by omega) HG).mono ?_
        rintro e w9 ⟨rfl, hb9⟩
        have B9 := Lib.hid (bw_call B8.out hb9)
        clear hb9
        have HBD := Lib.hid (And.intro lM (And.intro lQ (And.intro lR (And.intro lG qb))))
        have HVB := Lib.hid P0
        have HGP := Lib.hid lG.2
        have hG1 : ¬ (G : Int) < 1 := by omega
        clear lM lQ lR lG qb P0 hV2 lL
        have hG2 : decide ((G : Int) < 1) = false := decide_eq_false hG1
        have hR2 : decide (bQ1 ≤ bR1) = false := decide_eq_false (by omega)
        go_wp2_with fail
        refine (HD1.out _ (by have := HBD.out; omega)).mono ?_
        rintro e w10 ⟨rfl, rfl⟩
        go_wp2_with fail
        refine (HD2.out _ (by have := HBD.out; omega)).mono ?_
        rintro e w11 ⟨rfl, rfl⟩
        go_wp2_with fail
        refine (DividePolys_of w9 (by have := HVB.out; omega) (by have := HBD.out; omega) HGP.out HS1 HZ1).mono ?_
        rintro e w12 ⟨rfl, hb12⟩
        have B12 := Lib.hid (bw_call B9.out hb12)
        clear hb12
        go_wp2_with fail
        refine (DividePolys_of w12 (by have := HBD.out; omega) (by have := HBD.out; omega) HGP.out HS2 HZ2).mono ?_
        rintro e w13 ⟨rfl, hb13⟩
        have B13 := Lib.hid (bw_call B12.out hb13)
        clear hb13
        go_wp2
        go_ret
        exact ⟨by simp, B13.out⟩
end Go.Proofs.Ytkepnjdomlfpdaa
