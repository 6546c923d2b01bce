/-
  Contracts of natural numbers of any size: minus, compare. Conditions stand in each contract.
-/
import Derived.Test.YthkmhpkoanmbkaaDoorN3
import Derived.Deep.QuietTactic
namespace Go.Proofs.YthkmhpkoanmbkaaDoor
open Go.RowKit
set_option linter.unusedVariables false

/-- One digit more of a difference. -/
theorem minus_step {P o c a x y d d' c' : Int} (h : o - c * P = a) (hd : d = x - c - y) (h2 : d' - c' * 4294967296 = d) : (o + d' * P) - c' * (4294967296 * P) = a + (x * P - y * P) := by
  have e1 : c' * (4294967296 * P) = (c' * 4294967296) * P := by rw [Int.mul_assoc]
  have e2 : d' * P - (c' * 4294967296) * P = d * P := by rw [← Int.sub_mul, h2]
  have e3 : d * P = x * P - c * P - y * P := by rw [hd, Int.sub_mul, Int.sub_mul]
  rw [e1]; omega
/-- A number in memory of the call's own. -/
def RetF (m : Int) (w : World) (e : Ending) (w' : World) : Prop :=
  ∃ a c xs, e = .returned (.slice a (List.length xs) c) ∧ NatU w' a c xs m ∧ Below w.heap.size w w' ∧ ∀ g o, a = some ⟨g, o, none⟩ → w.heap.size ≤ g
set_option maxRecDepth 100000 in
set_option maxHeartbeats 2000000 in
theorem minus_new (xs ys : List Int) (a b : Option Addr) (ca cb : Nat) (n : Int) (w : World) (hx : HasU w a ca xs) (hsp : SpotFree a) (hdx : Dig xs) (hb : NatU w b cb ys n) (hs : xs.length ≤ 900) (hl : ys.length ≤ xs.length) (hle : n ≤ val xs) :
    Calls Tryd.prog 41 #[.slice a xs.length ca, .slice b ys.length cb] w fun e w' => RetF (val xs - n) w e w' := by
  have HX0 := Lib.hid hx
  have HDX := Lib.hid hdx
  have hY := Lib.hid hb
  have HLE := Lib.hid hle
  obtain ⟨L, HL⟩ : ∃ L, Hid (xs.length = L) := ⟨_, Lib.hid rfl⟩
  obtain ⟨M, HM⟩ : ∃ M, Hid (ys.length = M) := ⟨_, Lib.hid rfl⟩
  have HCX : Hid (0 < L → ∃ g o, a = some ⟨g, o, none⟩ ∧ g < w.heap.size ∧ ∀ j, j < xs.length → w.cell? ⟨g, o + j, none⟩ = some (.int .u32 (xs.getD j 0))) := Lib.hid fun h0 => by
    rcases hsp with rfl | ⟨g, o, rfl⟩
    · have := hx.2.2.1 rfl
      have := hx.1
      have := HL.out
      omega
    · obtain ⟨h1, h2⟩ := hx.2.2.2 g o rfl
      exact ⟨g, o, rfl, h1, h2⟩
  rw [HL.out, HM.out] at hl
  rw [HL.out] at hs
  rw [HL.out, HM.out]
  clear hx hdx hb hle hsp
  go_enter Tryd.func41, Tryd.ntmps41
  go_wp2_with (at_make; go_loud (refine wpMake tU rfl _ _ rfl L rfl rfl rfl rfl (by decide) (by omega) ?_); intro w1 hown)
  have HO1 := Lib.hid hown
  clear hown
  go_loopw [6, 14] (fun c i wr => ∃ (k : Nat) (cr : Int) (os : List Int), k ≤ L ∧ i = .int .i64 k ∧ c = .int .i64 cr ∧ (0 ≤ cr ∧ cr ≤ 1) ∧ Hid (os.length = L ∧ Dig os ∧ pk os k - cr * bp k = pk xs k - pk ys k) ∧ Hid (OwnI .u32 w.heap.size 77 w wr (.slice (some ⟨w.heap.size, 0, none⟩) L L) os)) (fun _ i _ => L - (intOf i).toNat)
  case atStart => exact ⟨0, 0, _, Nat.zero_le _, rfl, rfl, ⟨by omega, by omega⟩, Lib.hid ⟨List.length_replicate, dig_zero _, by simp [pk]⟩, HO1⟩
  case round =>
    obtain ⟨k, cr, os, hk, rfl, rfl, hcr, hst, ho⟩ := hrel
    by_cases hkx : k < L
    · obtain ⟨gx, ox, hax, hgx, hcx⟩ := HCX.out (by omega)
      have qx := (ho.out.below.cell (p := ⟨gx, ox + k, none⟩) hgx).trans (hcx k (by rw [HL.out]; omega))
      obtain ⟨xv, HXV⟩ : ∃ x, Hid (xs.getD k 0 = x) := ⟨_, Lib.hid rfl⟩
      have bx := HDX.out k
      rw [HXV.out] at qx bx
      subst hax
      clear hcx hgx
      obtain ⟨g, cap, hv, _, _, _, _, hc, hf⟩ := ho.out.cell
      simp only [Value.slice.injEq, Option.some.injEq, Addr.mk.injEq, and_true] at hv
      obtain ⟨rfl, -, -⟩ := hv
      have q1 := hc k (by rw [hst.out.1]; omega)
      have q2 := hf k
      obtain ⟨ov, HOV⟩ : ∃ o, Hid (os.getD k 0 = o) := ⟨_, Lib.hid rfl⟩
      rw [HOV.out] at q1
      clear hc hf
      have HSET : Hid (∀ (d' c' : Int) (yv : Int), 0 ≤ d' → d' ≤ 4294967295 → ys.getD k 0 = yv → d' - c' * 4294967296 = xv - cr - yv → ((os.set k d').length = L ∧ Dig (os.set k d') ∧ pk (os.set k d') (k + 1) - c' * bp (k + 1) = pk xs (k + 1) - pk ys (k + 1)) ∧ OwnI .u32 w.heap.size 77 w (wr.setCell ⟨w.heap.size, k, none⟩ (.int .u32 d')) (.slice (some ⟨w.heap.size, 0, none⟩) L L) (os.set k d')) := Lib.hid fun d' c' yv h0 h1 hy hd => by
        obtain ⟨a1, a2, a3⟩ := hst.out
        refine ⟨⟨by rw [List.length_set]; exact a1, a2.set k h0 h1, ?_⟩, ?_⟩
        · rw [pk_set_succ _ _ _ (by rw [a1]; omega), pk, pk, bp, HXV.out, hy]
          have := minus_step (P := bp k) (x := xv) (y := yv) a3 rfl hd
          rw [this]; omega
        · have h := ho.out
          rw [← a1] at h ⊢
          exact h.stored k d'
      by_cases hky : k < M
      · obtain ⟨gy, oy, hay, hgy, hcy⟩ := (hY.out.later ho.out.below).cells (by rw [HM.out]; omega)
        have qy := hcy k (by rw [HM.out]; omega)
        obtain ⟨yv, HYV⟩ : ∃ y, Hid (ys.getD k 0 = y) := ⟨_, Lib.hid rfl⟩
        have by' := hY.out.dig k
        rw [HYV.out] at qy by'
        subst hay
        clear hcy hgy
        by_cases hneg : xv - cr - yv < 0
        · have u1 : IntKind.u32.wrap (xv - cr - yv + 4294967296) = xv - cr - yv + 4294967296 := by rw [IntKind.wrap_u32]; omega
          obtain ⟨s1, s2⟩ := HSET.out (xv - cr - yv + 4294967296) 1 yv (by omega) (by omega) HYV.out (by omega)
          have S1 := Lib.hid s1
          have S2 := Lib.hid s2
          clear s1 s2
          go_wp2
          go_roundw
          case rel => exact ⟨k + 1, 1, _, by omega, by go_num, rfl, ⟨by omega, by omega⟩, S1, S2⟩
          case measure => simp [intOf] <;> omega
        · have u1 : IntKind.u32.wrap (xv - cr - yv) = xv - cr - yv := by rw [IntKind.wrap_u32]; omega
          obtain ⟨s1, s2⟩ := HSET.out (xv - cr - yv) 0 yv (by omega) (by omega) HYV.out (by omega)
          have S1 := Lib.hid s1
          have S2 := Lib.hid s2
          clear s1 s2
          go_wp2
          go_roundw
          case rel => exact ⟨k + 1, 0, _, by omega, by go_num, rfl, ⟨by omega, by omega⟩, S1, S2⟩
          case measure => simp [intOf] <;> omega
      · have HYZ : Hid (ys.getD k 0 = 0) := Lib.hid (getD_ge (by rw [HM.out]; omega))
        by_cases hneg : xv - cr < 0
        · have u1 : IntKind.u32.wrap (xv - cr + 4294967296) = xv - cr + 4294967296 := by rw [IntKind.wrap_u32]; omega
          obtain ⟨s1, s2⟩ := HSET.out (xv - cr + 4294967296) 1 0 (by omega) (by omega) HYZ.out (by omega)
          have S1 := Lib.hid s1
          have S2 := Lib.hid s2
          clear s1 s2
          go_wp2
          go_roundw
          case rel => exact ⟨k + 1, 1, _, by omega, by go_num, rfl, ⟨by omega, by omega⟩, S1, S2⟩
          case measure => simp [intOf] <;> omega
        · have u1 : IntKind.u32.wrap (xv - cr) = xv - cr := by rw [IntKind.wrap_u32]; omega
          obtain ⟨s1, s2⟩ := HSET.out (xv - cr) 0 0 (by omega) (by omega) HYZ.out (by omega)
          have S1 := Lib.hid s1
          have S2 := Lib.hid s2
          clear s1 s2
          go_wp2
          go_roundw
          case rel => exact ⟨k + 1, 0, _, by omega, by go_num, rfl, ⟨by omega, by omega⟩, S1, S2⟩
          case measure => simp [intOf] <;> omega
    · have hke : k = L := by omega
      subst hke
      obtain ⟨a1, a2, a3⟩ := hst.out
      have e1 : pk xs k = val xs := pk_ge (by rw [HL.out]; omega)
      have e2 : pk ys k = n := by rw [pk_ge (by rw [HM.out]; omega)]; exact hY.out.eq
      have p0 := pk_bd a2 k
      have hle := HLE.out
      have hcr0 : cr = 0 := by
        rw [e1, e2] at a3
        rcases (show cr = 0 ∨ cr = 1 by omega) with h | h
        · exact h
        · rw [h] at a3; omega
      subst hcr0
      have hval : val os = val xs - n := by
        rw [e1, e2] at a3
        unfold val
        rw [a1]; unfold val at a3; omega
      obtain ⟨g, cc, hv, hU, hge⟩ := ho.out.hasU
      rw [a1] at hv
      simp only [Value.slice.injEq, Option.some.injEq, Addr.mk.injEq, and_true] at hv
      obtain ⟨rfl, -, rfl⟩ := hv
      have hT := trim_same os _ _ wr hU (.inr ⟨_, _, rfl⟩) a2 (by rw [a1]; omega)
      rw [a1, hval] at hT
      have HB := Lib.hid ho.out.below
      clear a1 a2 a3 e1 e2 p0 hle hval hU
      go_wp2_with (go_at_call 53; refine hT.mono ?_; rintro e w2 ⟨rx, rfl, hn, rfl⟩)
      go_ret
      exact ⟨_, _, rx, rfl, hn, HB.out, fun g o e => (by cases e; exact Nat.le_refl _)⟩
theorem minus_any (xs ys : List Int) (a b : Option Addr) (ca cb : Nat) (n : Int) (w : World) (hx : HasU w a ca xs) (hsp : SpotFree a) (hdx : Dig xs) (hb : NatU w b cb ys n) (hs : xs.length ≤ 900) (hl : ys.length ≤ xs.length) (hle : n ≤ val xs) :
    Calls Tryd.prog 41 #[.slice a xs.length ca, .slice b ys.length cb] w fun e w' => RetN (val xs - n) w e w' :=
  (minus_new xs ys a b ca cb n w hx hsp hdx hb hs hl hle).mono fun e w' ⟨a, c, zs, h1, h2, h3, _⟩ => ⟨a, c, zs, h1, h2, h3⟩
/-- What a comparison hands back. -/
def CmpR (m n : Int) (w : World) (e : Ending) (w' : World) : Prop := ∃ r : Int, e = .returned (.int .i64 r) ∧ ((r < 0 ↔ m < n) ∧ (r = 0 ↔ m = n) ∧ (0 < r ↔ n < m) ∧ -1000 ≤ r ∧ r ≤ 1000) ∧ ∃ d, w' = w.drewN d
set_option maxRecDepth 100000 in
theorem compare_any (xs ys : List Int) (a b : Option Addr) (ca cb : Nat) (m n : Int) (w : World) (ha : NatU w a ca xs m) (hb : NatU w b cb ys n) :
    Calls Tryd.prog 40 #[.slice a xs.length ca, .slice b ys.length cb] w fun e w' => CmpR m n w e w' := by
  have HA := Lib.hid ha
  have HB := Lib.hid hb
  have s1 := ha.short
  have s2 := hb.short
  clear ha hb
  obtain ⟨L, HL⟩ : ∃ L, Hid (xs.length = L) := ⟨_, Lib.hid rfl⟩
  obtain ⟨M, HM⟩ : ∃ M, Hid (ys.length = M) := ⟨_, Lib.hid rfl⟩
  rw [HL.out] at s1
  rw [HM.out] at s2
  rw [HL.out, HM.out]
  by_cases hlm : (L : Int) = M
  · have hlm' : L = M := by omega
    subst hlm'
    have hne : ((L : Int) != (L : Int)) = false := by simp
    clear hlm
    go_enter Tryd.func40, Tryd.ntmps40
    go_wp2
    go_loopw [5] (fun i wr => ∃ k d : Nat, k ≤ L ∧ i = .int .i64 ((k : Int) - 1) ∧ wr = w.drewN d ∧ Hid (∀ j, k ≤ j → j < L → xs.getD j 0 = ys.getD j 0)) (fun i _ => (intOf i + 1).toNat)
    case atStart => exact ⟨L, 0, Nat.le_refl _, rfl, rfl, Lib.hid (fun j h1 h2 => by omega)⟩
    case round =>
      obtain ⟨k, d, hk, rfl, rfl, heq⟩ := hrel
      match k, hk, heq with
      | 0, hk, heq =>
        have hmn : m = n := by
          rw [← HA.out.eq, ← HB.out.eq]
          exact same_val (by rw [HL.out, HM.out]) (fun j hj => heq.out j (Nat.zero_le _) (by rw [← HL.out]; exact hj))
        have HMN := Lib.hid hmn
        clear hmn
        go_wp2
        go_ret
        exact ⟨0, rfl, by have := HMN.out; omega, _, rfl⟩
      | k + 1, hk, heq =>
        have ek : ((k + 1 : Nat) : Int) - 1 = (k : Int) := by omega
        rw [ek]
        clear ek
        obtain ⟨gx, ox, hax, _, hcx⟩ := HA.out.cells (by rw [HL.out]; omega)
        obtain ⟨gy, oy, hay, _, hcy⟩ := HB.out.cells (by rw [HM.out]; omega)
        have qx := hcx k (by rw [HL.out]; omega)
        have qy := hcy k (by rw [HM.out]; omega)
        obtain ⟨xv, HXV⟩ : ∃ x, Hid (xs.getD k 0 = x) := ⟨_, Lib.hid rfl⟩
        obtain ⟨yv, HYV⟩ : ∃ y, Hid (ys.getD k 0 = y) := ⟨_, Lib.hid rfl⟩
        rw [HXV.out] at qx
        rw [HYV.out] at qy
        have bx := HA.out.dig k
        have by' := HB.out.dig k
        rw [HXV.out] at bx
        rw [HYV.out] at by'
        subst hax
        subst hay
        clear hcx hcy
        have r0 : (0 : Int) ≤ (k : Int) := by omega
        have r1 : (k : Int) < (L : Int) := by omega
        have HORD : Hid (xv < yv → m < n) := Lib.hid fun h => by
          have h1 := pk_order HA.out.dig HB.out.dig k (by rw [HXV.out, HYV.out]; exact h) (L - (k + 1)) (fun j h1 h2 => heq.out j (by omega) (by omega))
          rw [show k + 1 + (L - (k + 1)) = L by omega, pk_ge (by rw [HL.out]; omega), pk_ge (by rw [HM.out]; omega), HA.out.eq, HB.out.eq] at h1
          exact h1
        have HORD2 : Hid (yv < xv → n < m) := Lib.hid fun h => by
          have h1 := pk_order HB.out.dig HA.out.dig k (by rw [HXV.out, HYV.out]; exact h) (L - (k + 1)) (fun j h1 h2 => (heq.out j (by omega) (by omega)).symm)
          rw [show k + 1 + (L - (k + 1)) = L by omega, pk_ge (by rw [HM.out]; omega), pk_ge (by rw [HL.out]; omega), HA.out.eq, HB.out.eq] at h1
          exact h1
        by_cases hv : xv = yv
        · have p1 : (xv != yv) = false := by simp [hv]
          have HEQ : Hid (∀ j, k ≤ j → j < L → xs.getD j 0 = ys.getD j 0) := Lib.hid fun j h1 h2 => by
            by_cases e : j = k
            · subst e; rw [HXV.out, HYV.out]; exact hv
            · exact heq.out j (by omega) h2
          clear hv
          go_wp2
          go_quiet (fail)
          go_wp2
          go_roundw
          case rel => exact ⟨k, _, by omega, rfl, rfl, HEQ⟩
          case measure => simp [intOf] <;> omega
        · have p1 : (xv != yv) = true := bne_iff_ne.2 hv
          by_cases hlt : xv < yv
          · clear hv
            go_wp2
            go_quiet (fail)
            go_wp2
            go_quiet (fail)
            go_wp2
            go_ret
            exact ⟨-1, rfl, by have := HORD.out hlt; omega, _, by rw [World.drewN_drewN, World.drewN_drewN]⟩
          · have hgt : yv < xv := by omega
            have HGT := Lib.hid hgt
            clear hv hgt
            go_wp2
            go_quiet (fail)
            go_wp2
            go_quiet (fail)
            go_wp2
            go_ret
            exact ⟨1, rfl, by have := HORD2.out HGT.out; omega, _, by rw [World.drewN_drewN, World.drewN_drewN]⟩
  · have hne : ((L : Int) != (M : Int)) = true := bne_iff_ne.2 hlm
    have HR : Hid ((((L : Int) - M < 0 ↔ m < n) ∧ ((L : Int) - M = 0 ↔ m = n) ∧ (0 < (L : Int) - M ↔ n < m))) := Lib.hid (by
      have h1 : m ≤ n → L ≤ M := fun h => by
        have := norm_len HA.out.dig HB.out.dig HA.out.norm HB.out.norm (by rw [HA.out.eq, HB.out.eq]; exact h)
        rwa [HL.out, HM.out] at this
      have h2 : n ≤ m → M ≤ L := fun h => by
        have := norm_len HB.out.dig HA.out.dig HB.out.norm HA.out.norm (by rw [HA.out.eq, HB.out.eq]; exact h)
        rwa [HL.out, HM.out] at this
      refine ⟨⟨fun h => ?_, fun h => ?_⟩, ⟨fun h => ?_, fun h => ?_⟩, ⟨fun h => ?_, fun h => ?_⟩⟩
      · by_cases c : n ≤ m
        · have := h2 c; omega
        · omega
      · have := h1 (by omega); omega
      · omega
      · have := h1 (by omega); have := h2 (by omega); omega
      · by_cases c : m ≤ n
        · have := h1 c; omega
        · omega
      · have := h2 (by omega); omega)
    clear hlm
    go_enter Tryd.func40, Tryd.ntmps40
    go_wp2
    go_ret
    exact ⟨(L : Int) - M, rfl, ⟨HR.out.1, HR.out.2.1, HR.out.2.2, by omega, by omega⟩, 0, rfl⟩
end Go.Proofs.YthkmhpkoanmbkaaDoor
