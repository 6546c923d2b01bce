/-
  Contracts of natural numbers of any size: times, up, down, small. Conditions stand in each contract.
-/
import Derived.Test.YthkmhpkoanmbkaaDoorN4
namespace Go.Proofs.YthkmhpkoanmbkaaDoor
open Go.RowKit
set_option linter.unusedVariables false

/-- A digit set below k. -/
theorem pk_set_lt (xs : List Int) (i : Nat) (z : Int) (hi : i < xs.length) : ∀ d, pk (xs.set i z) (i + 1 + d) = pk xs (i + 1 + d) + (z - xs.getD i 0) * bp i
  | 0 => by
    rw [Nat.add_zero, pk_set_succ xs i z hi, pk]
    grind
  | d + 1 => by
    rw [Nat.add_succ, pk, pk, pk_set_lt xs i z hi d, getD_set xs i _ z hi, if_neg (by omega)]
    omega
theorem pk_set_below {xs : List Int} {i k : Nat} {z : Int} (hi : i < xs.length) (h : i < k) : pk (xs.set i z) k = pk xs k + (z - xs.getD i 0) * bp i := by
  have := pk_set_lt xs i z hi (k - (i + 1))
  rwa [show i + 1 + (k - (i + 1)) = k by omega] at this
theorem times_step {p p' d o c c' s x y B bk bi P V : Int} (h1 : s = c + (o + x * y)) (h2 : s = d + 4294967296 * c') (h3 : p + c * (bi * bk) = P * V + x * B * bi) (h4 : p' = p + (d - o) * (bi * bk)) : p' + c' * (bi * (4294967296 * bk)) = P * V + x * (B + y * bk) * bi := by grind
theorem times_end {p c P V x bi bl : Int} (h : p + c * (bi * bl) = P * V + x * V * bi) : p + c * (bi * bl) = (P + x * bi) * V := by grind
theorem mul_bd {x y : Int} (h1 : 0 ≤ x) (h2 : x ≤ 4294967295) (h3 : 0 ≤ y) (h4 : y ≤ 4294967295) : 0 ≤ x * y ∧ x * y ≤ 18446744065119617025 := by
  have := Int.mul_le_mul h2 h4 h3 (by omega)
  have := Int.mul_nonneg h1 h3
  omega
set_option maxRecDepth 100000 in
set_option maxHeartbeats 2000000 in
theorem times_any (xs ys : List Int) (a b : Option Addr) (ca cb : Nat) (m n : Int) (w : World) (ha : NatU w a ca xs m) (hb : NatU w b cb ys n) (hs : xs.length ≤ 400 ∧ ys.length ≤ 400) :
    Calls Tryd.prog 38 #[.slice a xs.length ca, .slice b ys.length cb] w fun e w' => RetN (m * n) w e w' := by
  have HA := Lib.hid ha
  have HBn := Lib.hid hb
  clear ha hb
  obtain ⟨L, HL⟩ : ∃ L, Hid (xs.length = L) := ⟨_, Lib.hid rfl⟩
  obtain ⟨M, HM⟩ : ∃ M, Hid (ys.length = M) := ⟨_, Lib.hid rfl⟩
  rw [HL.out, HM.out]
  have sL : L ≤ 400 := by rw [← HL.out]; omega
  have sM : M ≤ 400 := by rw [← HM.out]; omega
  clear hs
  go_enter Tryd.func38, Tryd.ntmps38
  have hmk : wrap64 ((L : Int) + M) = ((L + M : Nat) : Int) := by rw [IntWalk.wrap64_in _ ⟨by omega, by omega⟩]; omega
  go_wp2_with (at_make; go_loud (refine wpMake tU rfl _ _ rfl (L + M) rfl rfl rfl rfl (by decide) (by omega) ?_); intro w1 hown)
  have HO1 := Lib.hid hown
  clear hown
  go_loopw [19] (fun i wr => ∃ (k : Nat) (os : List Int), k ≤ L ∧ i = .int .i64 k ∧ Hid (os.length = L + M ∧ Dig os ∧ pk os (k + M) = pk xs k * n) ∧ Hid (OwnI .u32 w.heap.size 77 w wr (.slice (some ⟨w.heap.size, 0, none⟩) (L + M) (L + M)) os)) (fun i _ => L - (intOf i).toNat)
  case atStart => exact ⟨0, _, Nat.zero_le _, rfl, Lib.hid ⟨List.length_replicate, dig_zero _, by rw [pk_zero]; simp [pk]⟩, HO1⟩
  case round =>
    obtain ⟨i, os, hi, rfl, hst, ho⟩ := hrel
    by_cases hiL : i < L
    · obtain ⟨gx, ox, hax, hgx, hcx⟩ := (HA.out.later ho.out.below).cells (by rw [HL.out]; omega)
      have qx := hcx i (by rw [HL.out]; omega)
      obtain ⟨xv, HX⟩ : ∃ x, Hid (xs.getD i 0 = x) := ⟨_, Lib.hid rfl⟩
      have bx := HA.out.dig i
      rw [HX.out] at qx bx
      subst hax
      clear hcx hgx
      go_wp2
      clear qx
      go_loopw [8, 26] (fun c j wq => ∃ (k : Nat) (cr : Int) (os : List Int), k ≤ M ∧ j = .int .i64 k ∧ c = .int .u64 cr ∧ (0 ≤ cr ∧ cr ≤ 4294967295) ∧ Hid (os.length = L + M ∧ Dig os ∧ pk os (i + M) + cr * (bp i * bp k) = pk xs i * n + xv * pk ys k * bp i) ∧ Hid (OwnI .u32 w.heap.size 77 w wq (.slice (some ⟨w.heap.size, 0, none⟩) (L + M) (L + M)) os)) (fun _ j _ => M - (intOf j).toNat)
      case atStart => exact ⟨0, 0, os, Nat.zero_le _, rfl, rfl, ⟨by omega, by omega⟩, Lib.hid ⟨hst.out.1, hst.out.2.1, by rw [hst.out.2.2]; simp [pk]⟩, ho⟩
      case round =>
        clear hst ho os
        obtain ⟨k, cr, os, hk, rfl, rfl, hcr, hst, ho⟩ := hrel
        obtain ⟨g, cap, hv, _, _, _, _, hc, hf⟩ := ho.out.cell
        simp only [Value.slice.injEq, Option.some.injEq, Addr.mk.injEq, and_true] at hv
        obtain ⟨rfl, -, -⟩ := hv
        by_cases hkM : k < M
        · obtain ⟨gy, oy, hay, hgy, hcy⟩ := (HBn.out.later ho.out.below).cells (by rw [HM.out]; omega)
          have qy := hcy k (by rw [HM.out]; omega)
          obtain ⟨yv, HY⟩ : ∃ y, Hid (ys.getD k 0 = y) := ⟨_, Lib.hid rfl⟩
          have by' := HBn.out.dig k
          rw [HY.out] at qy by'
          subst hay
          clear hcy hgy
          have q1 := hc (i + k) (by rw [hst.out.1]; omega)
          have q2 := hf (i + k)
          obtain ⟨ov, HOV⟩ : ∃ o, Hid (os.getD (i + k) 0 = o) := ⟨_, Lib.hid rfl⟩
          have bo := hst.out.2.1 (i + k)
          rw [HOV.out] at q1 bo
          clear hc hf
          obtain ⟨pv, hpv⟩ : ∃ p, xv * yv = p := ⟨_, rfl⟩
          have bp' := mul_bd bx.1 bx.2 by'.1 by'.2
          rw [hpv] at bp'
          obtain ⟨sv, hsv⟩ : ∃ s, s = cr + (ov + pv) := ⟨_, rfl⟩
          have HST : Hid ((os.set (i + k) (sv % 4294967296)).length = L + M ∧ Dig (os.set (i + k) (sv % 4294967296)) ∧ pk (os.set (i + k) (sv % 4294967296)) (i + M) + (sv / 4294967296) * (bp i * bp (k + 1)) = pk xs i * n + xv * pk ys (k + 1) * bp i) := Lib.hid (by
            obtain ⟨a1, a2, a3⟩ := hst.out
            refine ⟨by rw [List.length_set]; exact a1, a2.set _ (by omega) (by omega), ?_⟩
            have h4 := pk_set_below (xs := os) (z := sv % 4294967296) (show i + k < os.length by rw [a1]; omega) (show i + k < i + M by omega)
            rw [HOV.out, bp_add] at h4
            rw [← hpv] at hsv
            have := times_step hsv (show sv = sv % 4294967296 + 4294967296 * (sv / 4294967296) by omega) a3 h4
            rw [pk, bp, HY.out]
            exact this)
          have HO : Hid (OwnI .u32 w.heap.size 77 w (wr.setCell ⟨w.heap.size, i + k, none⟩ (.int .u32 (sv % 4294967296))) (.slice (some ⟨w.heap.size, 0, none⟩) (L + M) (L + M)) (os.set (i + k) (sv % 4294967296))) := Lib.hid (by
            have h := ho.out
            rw [← hst.out.1] at h ⊢
            exact h.stored (i + k) _)
          have v1 : IntKind.u64.wrap (xv * yv) = pv := by rw [hpv, IntKind.wrap_u64]; omega
          have v2 : IntKind.u64.wrap (ov + pv) = ov + pv := by rw [IntKind.wrap_u64]; omega
          have v3 : IntKind.u64.wrap (cr + (ov + pv)) = sv := by rw [← hsv, IntKind.wrap_u64]; omega
          have v4 : IntKind.u32.wrap sv = sv % 4294967296 := IntKind.wrap_u32 _
          have b1 : 0 ≤ sv ∧ sv ≤ 18446744073709551615 := by omega
          have cb : 0 ≤ sv / 4294967296 ∧ sv / 4294967296 ≤ 4294967295 := by omega
          have r0 : (0 : Int) ≤ (i : Int) + k := by omega
          have r1 : (i : Int) + k < (L : Int) + M := by omega
          clear hsv hpv
          go_wp2
          go_roundw
          case rel => exact ⟨k + 1, _, _, by omega, by go_num, rfl, cb, HST, HO⟩
          case measure => simp [intOf] <;> omega
        · have hke : M = k := by omega
          subst hke
          have q1 := hc (i + M) (by rw [hst.out.1]; omega)
          have q2 := hf (i + M)
          obtain ⟨ov, HOV⟩ : ∃ o, Hid (os.getD (i + M) 0 = o) := ⟨_, Lib.hid rfl⟩
          rw [HOV.out] at q1
          clear hc hf
          have HST : Hid ((os.set (i + M) cr).length = L + M ∧ Dig (os.set (i + M) cr) ∧ pk (os.set (i + M) cr) (i + 1 + M) = pk xs (i + 1) * n) := Lib.hid (by
            obtain ⟨a1, a2, a3⟩ := hst.out
            refine ⟨by rw [List.length_set]; exact a1, a2.set _ (by omega) (by omega), ?_⟩
            have e1 : pk ys M = n := by rw [pk_ge (by rw [HM.out]; omega)]; exact HBn.out.eq
            rw [e1] at a3
            rw [show i + 1 + M = i + M + 1 by omega, pk_set_succ _ _ _ (by rw [a1]; omega), bp_add, pk, HX.out]
            exact times_end a3)
          have HO : Hid (OwnI .u32 w.heap.size 77 w (wr.setCell ⟨w.heap.size, i + M, none⟩ (.int .u32 cr)) (.slice (some ⟨w.heap.size, 0, none⟩) (L + M) (L + M)) (os.set (i + M) cr)) := Lib.hid (by
            have h := ho.out
            rw [← hst.out.1] at h ⊢
            exact h.stored (i + M) _)
          have v4 : IntKind.u32.wrap cr = cr := by rw [IntKind.wrap_u32]; omega
          have r0 : (0 : Int) ≤ (i : Int) + M := by omega
          have r1 : (i : Int) + M < (L : Int) + M := by omega
          go_wp2
          go_roundw
          case rel => exact ⟨i + 1, _, by omega, by go_num, HST, HO⟩
          case measure => simp [intOf] <;> omega
    · have hie : i = L := by omega
      subst hie
      obtain ⟨a1, a2, a3⟩ := hst.out
      have hval : val os = m * n := by
        unfold val
        rw [a1, a3, pk_ge (by rw [HL.out]; omega)]
        rw [HA.out.eq]
      obtain ⟨g, cc, hv, hU, hge⟩ := ho.out.hasU
      rw [a1] at hv
      simp only [Value.slice.injEq, Option.some.injEq, Addr.mk.injEq, and_true] at hv
      obtain ⟨rfl, -, rfl⟩ := hv
      have hT := trim_any os _ _ wr hU (.inr ⟨_, _, rfl⟩) a2 (by rw [a1]; omega)
      rw [a1, hval] at hT
      have HB := Lib.hid ho.out.below
      clear a1 a2 a3 hval hU
      go_wp2_with (go_at_call 53; refine hT.mono ?_; rintro e w2 ⟨ra, rc, rx, rfl, hn, hb2⟩)
      go_ret
      exact ⟨ra, rc, rx, rfl, hn, bw_call HB.out hb2⟩
end Go.Proofs.YthkmhpkoanmbkaaDoor
