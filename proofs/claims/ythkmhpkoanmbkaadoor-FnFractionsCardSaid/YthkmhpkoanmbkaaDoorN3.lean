/-
  Contracts of natural numbers of any size: plus, minus, compare. Conditions stand in each contract.
-/
import Derived.Test.YthkmhpkoanmbkaaDoorN2
namespace Go.Proofs.YthkmhpkoanmbkaaDoor
open Go.RowKit
set_option linter.unusedVariables false

/-- One digit more of a sum. -/
theorem plus_step {P s o c a : Int} (h : o + c * P = a) (s0 : 0 ≤ s) : ∀ t, s = c + t → (o + (s % 4294967296) * P) + (s / 4294967296) * (4294967296 * P) = a + t * P := fun t ht => by
  have e : s = s % 4294967296 + 4294967296 * (s / 4294967296) := by omega
  have e1 : (s / 4294967296) * (4294967296 * P) = (4294967296 * (s / 4294967296)) * P := by
    rw [← Int.mul_assoc, Int.mul_comm (s / 4294967296)]
  have e2 : s * P = (s % 4294967296) * P + (4294967296 * (s / 4294967296)) * P := by
    rw [← Int.add_mul, ← e]
  have e3 : s * P = c * P + t * P := by rw [ht, Int.add_mul]
  rw [e1]
  omega
theorem getD_ge {xs : List Int} {k : Nat} (h : xs.length ≤ k) : xs.getD k 0 = 0 := by simp [List.getD, h]
/-- A cell of digits, wherever they lie. -/
theorem NatU.cells {w : World} {a : Option Addr} {c : Nat} {xs : List Int} {m : Int} (h : NatU w a c xs m) (h0 : 0 < xs.length) : ∃ g o, a = some ⟨g, o, none⟩ ∧ g < w.heap.size ∧ ∀ j, j < xs.length → w.cell? ⟨g, o + j, none⟩ = some (.int .u32 (xs.getD j 0)) := by
  rcases h.spot with rfl | ⟨g, o, rfl⟩
  · have := h.has.2.2.1 rfl
    have := h.has.1
    omega
  · obtain ⟨h1, h2⟩ := h.has.2.2.2 g o rfl
    exact ⟨g, o, rfl, h1, h2⟩
set_option maxRecDepth 100000 in
set_option maxHeartbeats 2000000 in
theorem plus_any (xs ys : List Int) (a b : Option Addr) (ca cb : Nat) (m n : Int) (w : World) (ha : NatU w a ca xs m) (hb : NatU w b cb ys n) (hs : xs.length ≤ 900 ∧ ys.length ≤ 900) :
    Calls Tryd.prog 39 #[.slice a xs.length ca, .slice b ys.length cb] w fun e w' => RetN (m + n) w e w' := by
  have HA := Lib.hid ha
  have HBn := Lib.hid hb
  clear ha hb
  by_cases hlen : (xs.length : Int) < ys.length
  · obtain ⟨L, HL⟩ : ∃ L, Hid (ys.length = L) := ⟨_, Lib.hid rfl⟩
    obtain ⟨M, HM⟩ : ∃ M, Hid (xs.length = M) := ⟨_, Lib.hid rfl⟩
    rw [HM.out, HL.out] at hlen ⊢
    have sL : L ≤ 900 := by rw [← HL.out]; omega
    have sM : M ≤ 900 := by rw [← HM.out]; omega
    have hML : M ≤ L := by omega
    go_enter Tryd.func39, Tryd.ntmps39
    have hmk : wrap64 ((L : Int) + 1) = ((L + 1 : Nat) : Int) := by rw [IntWalk.wrap64_in _ ⟨by omega, by omega⟩]; omega
    go_wp2_with (at_make; go_loud (refine wpMake tU rfl _ _ rfl (L + 1) rfl rfl rfl rfl (by decide) (by omega) ?_); intro w1 hown)
    have HO1 := Lib.hid hown
    clear hown
    go_loopw [6, 21] (fun c i wr => ∃ (k : Nat) (cr : Int) (os : List Int), k ≤ L + 1 ∧ i = .int .i64 k ∧ c = .int .u64 cr ∧ (0 ≤ cr ∧ cr ≤ 1) ∧ Hid (os.length = L + 1 ∧ Dig os ∧ pk os k + cr * bp k = pk ys k + pk xs k) ∧ Hid (OwnI .u32 w.heap.size 77 w wr (.slice (some ⟨w.heap.size, 0, none⟩) (L + 1) (L + 1)) os)) (fun _ i _ => L + 1 - (intOf i).toNat)
    case atStart => exact ⟨0, 0, _, Nat.zero_le _, rfl, rfl, ⟨by omega, by omega⟩, Lib.hid ⟨List.length_replicate, dig_zero _, by simp [pk]⟩, HO1⟩
    case round =>
      obtain ⟨k, cr, os, hk, rfl, rfl, hcr, hst, ho⟩ := hrel
      by_cases hkx : k < L
      · by_cases hky : k < M
        · have hkL : k < L + 1 := by omega
          obtain ⟨xv, HX⟩ : ∃ x, Hid (ys.getD k 0 = x) := ⟨_, Lib.hid rfl⟩
          have bx := HBn.out.dig k
          rw [HX.out] at bx
          obtain ⟨yv, HY⟩ : ∃ y, Hid (xs.getD k 0 = y) := ⟨_, Lib.hid rfl⟩
          have by' := HA.out.dig k
          rw [HY.out] at by'
          obtain ⟨gx, ox, hax, hgx, hcx⟩ := (HBn.out.later ho.out.below).cells (by rw [HL.out]; omega)
          subst hax
          have qx := hcx k (by rw [HL.out]; omega)
          rw [HX.out] at qx
          clear hcx hgx
          obtain ⟨gy, oy, hay, hgy, hcy⟩ := (HA.out.later ho.out.below).cells (by rw [HM.out]; omega)
          subst hay
          have qy := hcy k (by rw [HM.out]; omega)
          rw [HY.out] at qy
          clear hcy hgy
          obtain ⟨sv, hsv⟩ : ∃ s, s = cr + (xv + yv) := ⟨_, rfl⟩
          have HST : Hid ((os.set k (sv % 4294967296)).length = L + 1 ∧ Dig (os.set k (sv % 4294967296)) ∧ pk (os.set k (sv % 4294967296)) (k + 1) + (sv / 4294967296) * bp (k + 1) = pk ys (k + 1) + pk xs (k + 1)) := Lib.hid (by
            obtain ⟨a1, a2, a3⟩ := hst.out
            refine ⟨by rw [List.length_set]; exact a1, a2.set k (by omega) (by omega), ?_⟩
            rw [pk_set_succ _ _ _ (by rw [a1]; omega), pk, pk, bp, HX.out, HY.out]
            have := plus_step a3 (show 0 ≤ sv by omega) (xv + yv) hsv
            rw [this, Int.add_mul]
            omega)
          have HSV : sv = cr + xv + yv := by omega
          have HO : Hid (OwnI .u32 w.heap.size 77 w (wr.setCell ⟨w.heap.size, k, none⟩ (.int .u32 (sv % 4294967296))) (.slice (some ⟨w.heap.size, 0, none⟩) (L + 1) (L + 1)) (os.set k (sv % 4294967296))) := Lib.hid (by
            have h := ho.out
            rw [← hst.out.1] at h ⊢
            exact h.stored k _)
          obtain ⟨g, cap, hv, _, _, _, _, hc, hf⟩ := ho.out.cell
          simp only [Value.slice.injEq, Option.some.injEq, Addr.mk.injEq, and_true] at hv
          obtain ⟨rfl, -, -⟩ := hv
          have q1 := hc k (by rw [hst.out.1]; omega)
          have q2 := hf k
          obtain ⟨ov, HOV⟩ : ∃ o, Hid (os.getD k 0 = o) := ⟨_, Lib.hid rfl⟩
          rw [HOV.out] at q1
          clear hc hf
          have b0 : 0 ≤ cr + xv ∧ cr + xv ≤ 18446744073709551615 := by omega
          have b1 : 0 ≤ sv ∧ sv ≤ 8589934591 := by omega
          have w1 : IntKind.u64.wrap (cr + xv) = cr + xv := by rw [IntKind.wrap_u64]; omega
          have w2 : IntKind.u64.wrap (cr + yv) = cr + yv := by rw [IntKind.wrap_u64]; omega
          have w3 : IntKind.u64.wrap (cr + xv + yv) = cr + xv + yv := by rw [IntKind.wrap_u64]; omega
          have w4 : IntKind.u32.wrap (cr + xv + yv) = sv % 4294967296 := by rw [IntKind.wrap_u32, ← HSV]
          have w5 : (cr + xv + yv) / 4294967296 = sv / 4294967296 := by rw [← HSV]
          have cb : 0 ≤ sv / 4294967296 ∧ sv / 4294967296 ≤ 1 := by omega
          obtain ⟨cq, HCQ⟩ : ∃ c, Hid (sv / 4294967296 = c) := ⟨_, Lib.hid rfl⟩
          obtain ⟨dq, HDQ⟩ : ∃ d, Hid (sv % 4294967296 = d) := ⟨_, Lib.hid rfl⟩
          rw [HCQ.out] at w5 cb HST
          rw [HDQ.out] at w4 HST HO
          clear hsv HSV b1 b0
          go_wp2
          go_roundw
          case rel => exact ⟨k + 1, cq, _, by omega, by go_num, rfl, cb, HST, HO⟩
          case measure => simp [intOf] <;> omega
        · have hkL : k < L + 1 := by omega
          obtain ⟨xv, HX⟩ : ∃ x, Hid (ys.getD k 0 = x) := ⟨_, Lib.hid rfl⟩
          have bx := HBn.out.dig k
          rw [HX.out] at bx
          obtain ⟨yv, HY⟩ : ∃ y, Hid (xs.getD k 0 = y ∧ y = 0) := ⟨_, Lib.hid ⟨rfl, getD_ge (by rw [HM.out]; omega)⟩⟩
          have hy0 := HY.out.2
          have by' : 0 ≤ yv ∧ yv ≤ 4294967295 := by omega
          obtain ⟨gx, ox, hax, hgx, hcx⟩ := (HBn.out.later ho.out.below).cells (by rw [HL.out]; omega)
          subst hax
          have qx := hcx k (by rw [HL.out]; omega)
          rw [HX.out] at qx
          clear hcx hgx
          obtain ⟨sv, hsv⟩ : ∃ s, s = cr + (xv + yv) := ⟨_, rfl⟩
          have HST : Hid ((os.set k (sv % 4294967296)).length = L + 1 ∧ Dig (os.set k (sv % 4294967296)) ∧ pk (os.set k (sv % 4294967296)) (k + 1) + (sv / 4294967296) * bp (k + 1) = pk ys (k + 1) + pk xs (k + 1)) := Lib.hid (by
            obtain ⟨a1, a2, a3⟩ := hst.out
            refine ⟨by rw [List.length_set]; exact a1, a2.set k (by omega) (by omega), ?_⟩
            rw [pk_set_succ _ _ _ (by rw [a1]; omega), pk, pk, bp, HX.out, HY.out.1]
            have := plus_step a3 (show 0 ≤ sv by omega) (xv + yv) hsv
            rw [this, Int.add_mul]
            omega)
          have HSV : sv = cr + xv := by omega
          have HO : Hid (OwnI .u32 w.heap.size 77 w (wr.setCell ⟨w.heap.size, k, none⟩ (.int .u32 (sv % 4294967296))) (.slice (some ⟨w.heap.size, 0, none⟩) (L + 1) (L + 1)) (os.set k (sv % 4294967296))) := Lib.hid (by
            have h := ho.out
            rw [← hst.out.1] at h ⊢
            exact h.stored k _)
          obtain ⟨g, cap, hv, _, _, _, _, hc, hf⟩ := ho.out.cell
          simp only [Value.slice.injEq, Option.some.injEq, Addr.mk.injEq, and_true] at hv
          obtain ⟨rfl, -, -⟩ := hv
          have q1 := hc k (by rw [hst.out.1]; omega)
          have q2 := hf k
          obtain ⟨ov, HOV⟩ : ∃ o, Hid (os.getD k 0 = o) := ⟨_, Lib.hid rfl⟩
          rw [HOV.out] at q1
          clear hc hf
          have b0 : 0 ≤ cr + xv ∧ cr + xv ≤ 18446744073709551615 := by omega
          have b1 : 0 ≤ sv ∧ sv ≤ 8589934591 := by omega
          have w1 : IntKind.u64.wrap (cr + xv) = cr + xv := by rw [IntKind.wrap_u64]; omega
          have w2 : IntKind.u64.wrap (cr + yv) = cr + yv := by rw [IntKind.wrap_u64]; omega
          have w3 : IntKind.u64.wrap (cr + xv + yv) = cr + xv + yv := by rw [IntKind.wrap_u64]; omega
          have w4 : IntKind.u32.wrap (cr + xv) = sv % 4294967296 := by rw [IntKind.wrap_u32, ← HSV]
          have w5 : (cr + xv) / 4294967296 = sv / 4294967296 := by rw [← HSV]
          have cb : 0 ≤ sv / 4294967296 ∧ sv / 4294967296 ≤ 1 := by omega
          obtain ⟨cq, HCQ⟩ : ∃ c, Hid (sv / 4294967296 = c) := ⟨_, Lib.hid rfl⟩
          obtain ⟨dq, HDQ⟩ : ∃ d, Hid (sv % 4294967296 = d) := ⟨_, Lib.hid rfl⟩
          rw [HCQ.out] at w5 cb HST
          rw [HDQ.out] at w4 HST HO
          clear hsv HSV b1 b0
          go_wp2
          go_roundw
          case rel => exact ⟨k + 1, cq, _, by omega, by go_num, rfl, cb, HST, HO⟩
          case measure => simp [intOf] <;> omega
      · by_cases hkl : k = L
        · have hkL : k < L + 1 := by omega
          have hky : ¬ k < M := by omega
          clear hkl
          obtain ⟨xv, HX⟩ : ∃ x, Hid (ys.getD k 0 = x ∧ x = 0) := ⟨_, Lib.hid ⟨rfl, getD_ge (by rw [HL.out]; omega)⟩⟩
          have hx0 := HX.out.2
          have bx : 0 ≤ xv ∧ xv ≤ 4294967295 := by omega
          obtain ⟨yv, HY⟩ : ∃ y, Hid (xs.getD k 0 = y ∧ y = 0) := ⟨_, Lib.hid ⟨rfl, getD_ge (by rw [HM.out]; omega)⟩⟩
          have hy0 := HY.out.2
          have by' : 0 ≤ yv ∧ yv ≤ 4294967295 := by omega
          obtain ⟨sv, hsv⟩ : ∃ s, s = cr + (xv + yv) := ⟨_, rfl⟩
          have HST : Hid ((os.set k (sv % 4294967296)).length = L + 1 ∧ Dig (os.set k (sv % 4294967296)) ∧ pk (os.set k (sv % 4294967296)) (k + 1) + (sv / 4294967296) * bp (k + 1) = pk ys (k + 1) + pk xs (k + 1)) := Lib.hid (by
            obtain ⟨a1, a2, a3⟩ := hst.out
            refine ⟨by rw [List.length_set]; exact a1, a2.set k (by omega) (by omega), ?_⟩
            rw [pk_set_succ _ _ _ (by rw [a1]; omega), pk, pk, bp, HX.out.1, HY.out.1]
            have := plus_step a3 (show 0 ≤ sv by omega) (xv + yv) hsv
            rw [this, Int.add_mul]
            omega)
          have HSV : sv = cr := by omega
          have HO : Hid (OwnI .u32 w.heap.size 77 w (wr.setCell ⟨w.heap.size, k, none⟩ (.int .u32 (sv % 4294967296))) (.slice (some ⟨w.heap.size, 0, none⟩) (L + 1) (L + 1)) (os.set k (sv % 4294967296))) := Lib.hid (by
            have h := ho.out
            rw [← hst.out.1] at h ⊢
            exact h.stored k _)
          obtain ⟨g, cap, hv, _, _, _, _, hc, hf⟩ := ho.out.cell
          simp only [Value.slice.injEq, Option.some.injEq, Addr.mk.injEq, and_true] at hv
          obtain ⟨rfl, -, -⟩ := hv
          have q1 := hc k (by rw [hst.out.1]; omega)
          have q2 := hf k
          obtain ⟨ov, HOV⟩ : ∃ o, Hid (os.getD k 0 = o) := ⟨_, Lib.hid rfl⟩
          rw [HOV.out] at q1
          clear hc hf
          have b0 : 0 ≤ cr + xv ∧ cr + xv ≤ 18446744073709551615 := by omega
          have b1 : 0 ≤ sv ∧ sv ≤ 8589934591 := by omega
          have w1 : IntKind.u64.wrap (cr + xv) = cr + xv := by rw [IntKind.wrap_u64]; omega
          have w2 : IntKind.u64.wrap (cr + yv) = cr + yv := by rw [IntKind.wrap_u64]; omega
          have w3 : IntKind.u64.wrap (cr + xv + yv) = cr + xv + yv := by rw [IntKind.wrap_u64]; omega
          have w4 : IntKind.u32.wrap (cr) = sv % 4294967296 := by rw [IntKind.wrap_u32, ← HSV]
          have w5 : (cr) / 4294967296 = sv / 4294967296 := by rw [← HSV]
          have cb : 0 ≤ sv / 4294967296 ∧ sv / 4294967296 ≤ 1 := by omega
          obtain ⟨cq, HCQ⟩ : ∃ c, Hid (sv / 4294967296 = c) := ⟨_, Lib.hid rfl⟩
          obtain ⟨dq, HDQ⟩ : ∃ d, Hid (sv % 4294967296 = d) := ⟨_, Lib.hid rfl⟩
          rw [HCQ.out] at w5 cb HST
          rw [HDQ.out] at w4 HST HO
          clear hsv HSV b1 b0
          go_wp2
          go_roundw
          case rel => exact ⟨k + 1, cq, _, by omega, by go_num, rfl, cb, HST, HO⟩
          case measure => simp [intOf] <;> omega
        · have hke : k = L + 1 := by omega
          subst hke
          obtain ⟨a1, a2, a3⟩ := hst.out
          have e1 : pk ys (L + 1) = n := by rw [pk_ge (by rw [HL.out]; omega)]; exact HBn.out.eq
          have e2 : pk xs (L + 1) = m := by rw [pk_ge (by rw [HM.out]; omega)]; exact HA.out.eq
          have b1 : n < bp L := by have := val_lt HBn.out.dig; rw [HBn.out.eq, HL.out] at this; exact this
          have b2 : m < bp L := by
            have h1 := val_lt HA.out.dig
            have h2 := bp_mono hML
            rw [HA.out.eq, HM.out] at h1; omega
          have p0 := (pk_bd a2 (L + 1)).1
          have hp := bp_pos L
          have hcr0 : cr = 0 := by
            rw [e1, e2, bp] at a3
            rcases (show cr = 0 ∨ cr = 1 by omega) with h | h
            · exact h
            · rw [h] at a3; omega
          subst hcr0
          have hval : val os = m + n := by
            rw [e1, e2] at a3
            unfold val
            rw [a1]; omega
          have HVAL := Lib.hid hval
          obtain ⟨g, cc, hv, hU, hge⟩ := ho.out.hasU
          rw [a1] at hv
          simp only [Value.slice.injEq, Option.some.injEq, Addr.mk.injEq, and_true] at hv
          obtain ⟨rfl, -, rfl⟩ := hv
          have hT := trim_any os _ _ wr hU (.inr ⟨_, _, rfl⟩) a2 (by rw [a1]; omega)
          rw [a1, hval] at hT
          have HB := Lib.hid ho.out.below
          clear a1 a2 a3 e1 e2 b1 b2 p0 hp hval hU
          go_wp2_with (go_at_call 53; refine hT.mono ?_; rintro e w2 ⟨ra, rc, rx, rfl, hn, hb2⟩)
          go_ret
          exact ⟨ra, rc, rx, rfl, hn, bw_call HB.out hb2⟩
  · obtain ⟨L, HL⟩ : ∃ L, Hid (xs.length = L) := ⟨_, Lib.hid rfl⟩
    obtain ⟨M, HM⟩ : ∃ M, Hid (ys.length = M) := ⟨_, Lib.hid rfl⟩
    rw [HL.out, HM.out] at hlen ⊢
    have sL : L ≤ 900 := by rw [← HL.out]; omega
    have sM : M ≤ 900 := by rw [← HM.out]; omega
    have hML : M ≤ L := by omega
    go_enter Tryd.func39, Tryd.ntmps39
    have hmk : wrap64 ((L : Int) + 1) = ((L + 1 : Nat) : Int) := by rw [IntWalk.wrap64_in _ ⟨by omega, by omega⟩]; omega
    go_wp2_with (at_make; go_loud (refine wpMake tU rfl _ _ rfl (L + 1) rfl rfl rfl rfl (by decide) (by omega) ?_); intro w1 hown)
    have HO1 := Lib.hid hown
    clear hown
    go_loopw [6, 21] (fun c i wr => ∃ (k : Nat) (cr : Int) (os : List Int), k ≤ L + 1 ∧ i = .int .i64 k ∧ c = .int .u64 cr ∧ (0 ≤ cr ∧ cr ≤ 1) ∧ Hid (os.length = L + 1 ∧ Dig os ∧ pk os k + cr * bp k = pk xs k + pk ys k) ∧ Hid (OwnI .u32 w.heap.size 77 w wr (.slice (some ⟨w.heap.size, 0, none⟩) (L + 1) (L + 1)) os)) (fun _ i _ => L + 1 - (intOf i).toNat)
    case atStart => exact ⟨0, 0, _, Nat.zero_le _, rfl, rfl, ⟨by omega, by omega⟩, Lib.hid ⟨List.length_replicate, dig_zero _, by simp [pk]⟩, HO1⟩
    case round =>
      obtain ⟨k, cr, os, hk, rfl, rfl, hcr, hst, ho⟩ := hrel
      by_cases hkx : k < L
      · by_cases hky : k < M
        · have hkL : k < L + 1 := by omega
          obtain ⟨xv, HX⟩ : ∃ x, Hid (xs.getD k 0 = x) := ⟨_, Lib.hid rfl⟩
          have bx := HA.out.dig k
          rw [HX.out] at bx
          obtain ⟨yv, HY⟩ : ∃ y, Hid (ys.getD k 0 = y) := ⟨_, Lib.hid rfl⟩
          have by' := HBn.out.dig k
          rw [HY.out] at by'
          obtain ⟨gx, ox, hax, hgx, hcx⟩ := (HA.out.later ho.out.below).cells (by rw [HL.out]; omega)
          subst hax
          have qx := hcx k (by rw [HL.out]; omega)
          rw [HX.out] at qx
          clear hcx hgx
          obtain ⟨gy, oy, hay, hgy, hcy⟩ := (HBn.out.later ho.out.below).cells (by rw [HM.out]; omega)
          subst hay
          have qy := hcy k (by rw [HM.out]; omega)
          rw [HY.out] at qy
          clear hcy hgy
          obtain ⟨sv, hsv⟩ : ∃ s, s = cr + (xv + yv) := ⟨_, rfl⟩
          have HST : Hid ((os.set k (sv % 4294967296)).length = L + 1 ∧ Dig (os.set k (sv % 4294967296)) ∧ pk (os.set k (sv % 4294967296)) (k + 1) + (sv / 4294967296) * bp (k + 1) = pk xs (k + 1) + pk ys (k + 1)) := Lib.hid (by
            obtain ⟨a1, a2, a3⟩ := hst.out
            refine ⟨by rw [List.length_set]; exact a1, a2.set k (by omega) (by omega), ?_⟩
            rw [pk_set_succ _ _ _ (by rw [a1]; omega), pk, pk, bp, HX.out, HY.out]
            have := plus_step a3 (show 0 ≤ sv by omega) (xv + yv) hsv
            rw [this, Int.add_mul]
            omega)
          have HSV : sv = cr + xv + yv := by omega
          have HO : Hid (OwnI .u32 w.heap.size 77 w (wr.setCell ⟨w.heap.size, k, none⟩ (.int .u32 (sv % 4294967296))) (.slice (some ⟨w.heap.size, 0, none⟩) (L + 1) (L + 1)) (os.set k (sv % 4294967296))) := Lib.hid (by
            have h := ho.out
            rw [← hst.out.1] at h ⊢
            exact h.stored k _)
          obtain ⟨g, cap, hv, _, _, _, _, hc, hf⟩ := ho.out.cell
          simp only [Value.slice.injEq, Option.some.injEq, Addr.mk.injEq, and_true] at hv
          obtain ⟨rfl, -, -⟩ := hv
          have q1 := hc k (by rw [hst.out.1]; omega)
          have q2 := hf k
          obtain ⟨ov, HOV⟩ : ∃ o, Hid (os.getD k 0 = o) := ⟨_, Lib.hid rfl⟩
          rw [HOV.out] at q1
          clear hc hf
          have b0 : 0 ≤ cr + xv ∧ cr + xv ≤ 18446744073709551615 := by omega
          have b1 : 0 ≤ sv ∧ sv ≤ 8589934591 := by omega
          have w1 : IntKind.u64.wrap (cr + xv) = cr + xv := by rw [IntKind.wrap_u64]; omega
          have w2 : IntKind.u64.wrap (cr + yv) = cr + yv := by rw [IntKind.wrap_u64]; omega
          have w3 : IntKind.u64.wrap (cr + xv + yv) = cr + xv + yv := by rw [IntKind.wrap_u64]; omega
          have w4 : IntKind.u32.wrap (cr + xv + yv) = sv % 4294967296 := by rw [IntKind.wrap_u32, ← HSV]
          have w5 : (cr + xv + yv) / 4294967296 = sv / 4294967296 := by rw [← HSV]
          have cb : 0 ≤ sv / 4294967296 ∧ sv / 4294967296 ≤ 1 := by omega
          obtain ⟨cq, HCQ⟩ : ∃ c, Hid (sv / 4294967296 = c) := ⟨_, Lib.hid rfl⟩
          obtain ⟨dq, HDQ⟩ : ∃ d, Hid (sv % 4294967296 = d) := ⟨_, Lib.hid rfl⟩
          rw [HCQ.out] at w5 cb HST
          rw [HDQ.out] at w4 HST HO
          clear hsv HSV b1 b0
          go_wp2
          go_roundw
          case rel => exact ⟨k + 1, cq, _, by omega, by go_num, rfl, cb, HST, HO⟩
          case measure => simp [intOf] <;> omega
        · have hkL : k < L + 1 := by omega
          obtain ⟨xv, HX⟩ : ∃ x, Hid (xs.getD k 0 = x) := ⟨_, Lib.hid rfl⟩
          have bx := HA.out.dig k
          rw [HX.out] at bx
          obtain ⟨yv, HY⟩ : ∃ y, Hid (ys.getD k 0 = y ∧ y = 0) := ⟨_, Lib.hid ⟨rfl, getD_ge (by rw [HM.out]; omega)⟩⟩
          have hy0 := HY.out.2
          have by' : 0 ≤ yv ∧ yv ≤ 4294967295 := by omega
          obtain ⟨gx, ox, hax, hgx, hcx⟩ := (HA.out.later ho.out.below).cells (by rw [HL.out]; omega)
          subst hax
          have qx := hcx k (by rw [HL.out]; omega)
          rw [HX.out] at qx
          clear hcx hgx
          obtain ⟨sv, hsv⟩ : ∃ s, s = cr + (xv + yv) := ⟨_, rfl⟩
          have HST : Hid ((os.set k (sv % 4294967296)).length = L + 1 ∧ Dig (os.set k (sv % 4294967296)) ∧ pk (os.set k (sv % 4294967296)) (k + 1) + (sv / 4294967296) * bp (k + 1) = pk xs (k + 1) + pk ys (k + 1)) := Lib.hid (by
            obtain ⟨a1, a2, a3⟩ := hst.out
            refine ⟨by rw [List.length_set]; exact a1, a2.set k (by omega) (by omega), ?_⟩
            rw [pk_set_succ _ _ _ (by rw [a1]; omega), pk, pk, bp, HX.out, HY.out.1]
            have := plus_step a3 (show 0 ≤ sv by omega) (xv + yv) hsv
            rw [this, Int.add_mul]
            omega)
          have HSV : sv = cr + xv := by omega
          have HO : Hid (OwnI .u32 w.heap.size 77 w (wr.setCell ⟨w.heap.size, k, none⟩ (.int .u32 (sv % 4294967296))) (.slice (some ⟨w.heap.size, 0, none⟩) (L + 1) (L + 1)) (os.set k (sv % 4294967296))) := Lib.hid (by
            have h := ho.out
            rw [← hst.out.1] at h ⊢
            exact h.stored k _)
          obtain ⟨g, cap, hv, _, _, _, _, hc, hf⟩ := ho.out.cell
          simp only [Value.slice.injEq, Option.some.injEq, Addr.mk.injEq, and_true] at hv
          obtain ⟨rfl, -, -⟩ := hv
          have q1 := hc k (by rw [hst.out.1]; omega)
          have q2 := hf k
          obtain ⟨ov, HOV⟩ : ∃ o, Hid (os.getD k 0 = o) := ⟨_, Lib.hid rfl⟩
          rw [HOV.out] at q1
          clear hc hf
          have b0 : 0 ≤ cr + xv ∧ cr + xv ≤ 18446744073709551615 := by omega
          have b1 : 0 ≤ sv ∧ sv ≤ 8589934591 := by omega
          have w1 : IntKind.u64.wrap (cr + xv) = cr + xv := by rw [IntKind.wrap_u64]; omega
          have w2 : IntKind.u64.wrap (cr + yv) = cr + yv := by rw [IntKind.wrap_u64]; omega
          have w3 : IntKind.u64.wrap (cr + xv + yv) = cr + xv + yv := by rw [IntKind.wrap_u64]; omega
          have w4 : IntKind.u32.wrap (cr + xv) = sv % 4294967296 := by rw [IntKind.wrap_u32, ← HSV]
          have w5 : (cr + xv) / 4294967296 = sv / 4294967296 := by rw [← HSV]
          have cb : 0 ≤ sv / 4294967296 ∧ sv / 4294967296 ≤ 1 := by omega
          obtain ⟨cq, HCQ⟩ : ∃ c, Hid (sv / 4294967296 = c) := ⟨_, Lib.hid rfl⟩
          obtain ⟨dq, HDQ⟩ : ∃ d, Hid (sv % 4294967296 = d) := ⟨_, Lib.hid rfl⟩
          rw [HCQ.out] at w5 cb HST
          rw [HDQ.out] at w4 HST HO
          clear hsv HSV b1 b0
          go_wp2
          go_roundw
          case rel => exact ⟨k + 1, cq, _, by omega, by go_num, rfl, cb, HST, HO⟩
          case measure => simp [intOf] <;> omega
      · by_cases hkl : k = L
        · have hkL : k < L + 1 := by omega
          have hky : ¬ k < M := by omega
          clear hkl
          obtain ⟨xv, HX⟩ : ∃ x, Hid (xs.getD k 0 = x ∧ x = 0) := ⟨_, Lib.hid ⟨rfl, getD_ge (by rw [HL.out]; omega)⟩⟩
          have hx0 := HX.out.2
          have bx : 0 ≤ xv ∧ xv ≤ 4294967295 := by omega
          obtain ⟨yv, HY⟩ : ∃ y, Hid (ys.getD k 0 = y ∧ y = 0) := ⟨_, Lib.hid ⟨rfl, getD_ge (by rw [HM.out]; omega)⟩⟩
          have hy0 := HY.out.2
          have by' : 0 ≤ yv ∧ yv ≤ 4294967295 := by omega
          obtain ⟨sv, hsv⟩ : ∃ s, s = cr + (xv + yv) := ⟨_, rfl⟩
          have HST : Hid ((os.set k (sv % 4294967296)).length = L + 1 ∧ Dig (os.set k (sv % 4294967296)) ∧ pk (os.set k (sv % 4294967296)) (k + 1) + (sv / 4294967296) * bp (k + 1) = pk xs (k + 1) + pk ys (k + 1)) := Lib.hid (by
            obtain ⟨a1, a2, a3⟩ := hst.out
            refine ⟨by rw [List.length_set]; exact a1, a2.set k (by omega) (by omega), ?_⟩
            rw [pk_set_succ _ _ _ (by rw [a1]; omega), pk, pk, bp, HX.out.1, HY.out.1]
            have := plus_step a3 (show 0 ≤ sv by omega) (xv + yv) hsv
            rw [this, Int.add_mul]
            omega)
          have HSV : sv = cr := by omega
          have HO : Hid (OwnI .u32 w.heap.size 77 w (wr.setCell ⟨w.heap.size, k, none⟩ (.int .u32 (sv % 4294967296))) (.slice (some ⟨w.heap.size, 0, none⟩) (L + 1) (L + 1)) (os.set k (sv % 4294967296))) := Lib.hid (by
            have h := ho.out
            rw [← hst.out.1] at h ⊢
            exact h.stored k _)
          obtain ⟨g, cap, hv, _, _, _, _, hc, hf⟩ := ho.out.cell
          simp only [Value.slice.injEq, Option.some.injEq, Addr.mk.injEq, and_true] at hv
          obtain ⟨rfl, -, -⟩ := hv
          have q1 := hc k (by rw [hst.out.1]; omega)
          have q2 := hf k
          obtain ⟨ov, HOV⟩ : ∃ o, Hid (os.getD k 0 = o) := ⟨_, Lib.hid rfl⟩
          rw [HOV.out] at q1
          clear hc hf
          have b0 : 0 ≤ cr + xv ∧ cr + xv ≤ 18446744073709551615 := by omega
          have b1 : 0 ≤ sv ∧ sv ≤ 8589934591 := by omega
          have w1 : IntKind.u64.wrap (cr + xv) = cr + xv := by rw [IntKind.wrap_u64]; omega
          have w2 : IntKind.u64.wrap (cr + yv) = cr + yv := by rw [IntKind.wrap_u64]; omega
          have w3 : IntKind.u64.wrap (cr + xv + yv) = cr + xv + yv := by rw [IntKind.wrap_u64]; omega
          have w4 : IntKind.u32.wrap (cr) = sv % 4294967296 := by rw [IntKind.wrap_u32, ← HSV]
          have w5 : (cr) / 4294967296 = sv / 4294967296 := by rw [← HSV]
          have cb : 0 ≤ sv / 4294967296 ∧ sv / 4294967296 ≤ 1 := by omega
          obtain ⟨cq, HCQ⟩ : ∃ c, Hid (sv / 4294967296 = c) := ⟨_, Lib.hid rfl⟩
          obtain ⟨dq, HDQ⟩ : ∃ d, Hid (sv % 4294967296 = d) := ⟨_, Lib.hid rfl⟩
          rw [HCQ.out] at w5 cb HST
          rw [HDQ.out] at w4 HST HO
          clear hsv HSV b1 b0
          go_wp2
          go_roundw
          case rel => exact ⟨k + 1, cq, _, by omega, by go_num, rfl, cb, HST, HO⟩
          case measure => simp [intOf] <;> omega
        · have hke : k = L + 1 := by omega
          subst hke
          obtain ⟨a1, a2, a3⟩ := hst.out
          have e1 : pk xs (L + 1) = m := by rw [pk_ge (by rw [HL.out]; omega)]; exact HA.out.eq
          have e2 : pk ys (L + 1) = n := by rw [pk_ge (by rw [HM.out]; omega)]; exact HBn.out.eq
          have b1 : m < bp L := by have := val_lt HA.out.dig; rw [HA.out.eq, HL.out] at this; exact this
          have b2 : n < bp L := by
            have h1 := val_lt HBn.out.dig
            have h2 := bp_mono hML
            rw [HBn.out.eq, HM.out] at h1; omega
          have p0 := (pk_bd a2 (L + 1)).1
          have hp := bp_pos L
          have hcr0 : cr = 0 := by
            rw [e1, e2, bp] at a3
            rcases (show cr = 0 ∨ cr = 1 by omega) with h | h
            · exact h
            · rw [h] at a3; omega
          subst hcr0
          have hval : val os = m + n := by
            rw [e1, e2] at a3
            unfold val
            rw [a1]; omega
          have HVAL := Lib.hid hval
          obtain ⟨g, cc, hv, hU, hge⟩ := ho.out.hasU
          rw [a1] at hv
          simp only [Value.slice.injEq, Option.some.injEq, Addr.mk.injEq, and_true] at hv
          obtain ⟨rfl, -, rfl⟩ := hv
          have hT := trim_any os _ _ wr hU (.inr ⟨_, _, rfl⟩) a2 (by rw [a1]; omega)
          rw [a1, hval] at hT
          have HB := Lib.hid ho.out.below
          clear a1 a2 a3 e1 e2 b1 b2 p0 hp hval hU
          go_wp2_with (go_at_call 53; refine hT.mono ?_; rintro e w2 ⟨ra, rc, rx, rfl, hn, hb2⟩)
          go_ret
          exact ⟨ra, rc, rx, rfl, hn, bw_call HB.out hb2⟩
end Go.Proofs.YthkmhpkoanmbkaaDoor
