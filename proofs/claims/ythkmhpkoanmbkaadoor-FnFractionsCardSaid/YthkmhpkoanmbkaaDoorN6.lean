/-
  Bits of unsigned numbers; contracts of natural numbers of any size: up, down. Conditions stand in each contract.
-/
import Derived.Test.YthkmhpkoanmbkaaDoorN5
import Derived.Test.YthkmhpkoanmbkaaDoorBits
namespace Go.Proofs.YthkmhpkoanmbkaaDoor
open Go.RowKit
set_option linter.unusedVariables false

theorem u64_nat (a : Nat) (h : a < 18446744073709551616) : IntKind.u64.wrap (a : Int) = (a : Int) := by rw [IntKind.wrap_u64]; omega
theorem ofIntU_nat (a : Nat) (ha : a < 18446744073709551616) : (BitVec.ofInt 64 (a : Int)).toNat = a := by
  rw [BitVec.ofInt_natCast, BitVec.toNat_ofNat]; exact Nat.mod_eq_of_lt (by omega)
theorem u64_or_nat (a b : Nat) (ha : a < 18446744073709551616) (hb : b < 18446744073709551616) : bits .or .u64 (a : Int) (b : Int) = ((a ||| b : Nat) : Int) := by
  have hx : a ||| b < 2 ^ 64 := Nat.or_lt_two_pow (by omega) (by omega)
  show IntKind.u64.wrap ((BitVec.ofInt 64 (a : Int) ||| BitVec.ofInt 64 (b : Int)).toNat : Int) = _
  rw [BitVec.toNat_or, ofIntU_nat a ha, ofIntU_nat b hb, u64_nat _ (by omega)]
theorem u64_and_nat (a b : Nat) (ha : a < 18446744073709551616) (hb : b < 18446744073709551616) : bits .and .u64 (a : Int) (b : Int) = ((a &&& b : Nat) : Int) := by
  have hx : a &&& b < 2 ^ 64 := Nat.and_lt_two_pow _ (by omega)
  show IntKind.u64.wrap ((BitVec.ofInt 64 (a : Int) &&& BitVec.ofInt 64 (b : Int)).toNat : Int) = _
  rw [BitVec.toNat_and, ofIntU_nat a ha, ofIntU_nat b hb, u64_nat _ (by omega)]
/-- Bits above and bits below. -/
theorem u64_or_high {c x : Int} (s : Nat) (c0 : 0 ≤ c) (c1 : c < 2 ^ s) (x0 : 0 ≤ x) (h : c + x * 2 ^ s < 18446744073709551616) : bits .or .u64 c (x * 2 ^ s) = c + x * 2 ^ s := by
  obtain ⟨C, rfl⟩ := Int.eq_ofNat_of_zero_le c0
  obtain ⟨X, rfl⟩ := Int.eq_ofNat_of_zero_le x0
  have e : ((X : Int) * 2 ^ s) = ((X * 2 ^ s : Nat) : Int) := by simp
  have e1 : ((2 : Int) ^ s) = ((2 ^ s : Nat) : Int) := by simp
  rw [e] at h ⊢
  rw [e1] at c1
  rw [u64_or_nat _ _ (by omega) (by omega), Nat.or_comm, Nat.mul_comm, ← Nat.two_pow_add_eq_or_of_lt (by omega)]
  omega
theorem u64_or_low {c x : Int} (c0 : 0 ≤ c) (c1 : c < 4294967296) (x0 : 0 ≤ x) (h : x < 4294967296) : bits .or .u64 (x * 4294967296) c = x * 4294967296 + c := by
  obtain ⟨C, rfl⟩ := Int.eq_ofNat_of_zero_le c0
  obtain ⟨X, rfl⟩ := Int.eq_ofNat_of_zero_le x0
  have e : ((X : Int) * 4294967296) = ((2 ^ 32 * X : Nat) : Int) := by omega
  rw [e, u64_or_nat _ _ (by omega) (by omega), ← Nat.two_pow_add_eq_or_of_lt (by omega)]
  omega
theorem u64_mask {c : Int} (s : Nat) (c0 : 0 ≤ c) (c1 : c < 18446744073709551616) (hs : s ≤ 63) : bits .and .u64 c (2 ^ s - 1) = c % 2 ^ s := by
  obtain ⟨C, rfl⟩ := Int.eq_ofNat_of_zero_le c0
  have p : 2 ^ s ≤ 2 ^ 63 := Nat.pow_le_pow_right (by decide) hs
  have p1 : 1 ≤ 2 ^ s := Nat.one_le_two_pow
  have e1 : ((2 : Int) ^ s) = ((2 ^ s : Nat) : Int) := by simp
  have e : ((2 : Int) ^ s - 1) = ((2 ^ s - 1 : Nat) : Int) := by rw [e1]; omega
  rw [e, e1, u64_and_nat _ _ (by omega) (by omega), Nat.and_two_pow_sub_one_eq_mod]
  omega
/-- A power of 2, as a number of its own. -/
def P2 (s : Nat) (p : Int) : Prop := (2 : Int) ^ s = p
theorem P2.bd {s : Nat} {p : Int} (h : P2 s p) (hs : s ≤ 31) : 1 ≤ p ∧ p ≤ 2147483648 := by
  have p : 2 ^ s ≤ 2 ^ 31 := Nat.pow_le_pow_right (by decide) hs
  have p1 : 1 ≤ 2 ^ s := Nat.one_le_two_pow
  have e1 : ((2 : Int) ^ s) = ((2 ^ s : Nat) : Int) := by simp
  unfold P2 at h
  omega
theorem mul_le_of {x p X Y : Int} (h1 : 0 ≤ x) (h2 : x ≤ X) (h3 : 0 ≤ p) (h4 : p ≤ Y) : 0 ≤ x * p ∧ x * p ≤ X * Y :=
  ⟨Int.mul_nonneg h1 h3, Int.mul_le_mul h2 h4 h3 (by omega)⟩
theorem mul_le_left {x p X : Int} (h1 : x ≤ X) (h3 : 0 ≤ p) : x * p ≤ X * p := Int.mul_le_mul_of_nonneg_right h1 h3
theorem up_step {o c s d c' x p q P : Int} (h : o + c * q = P * p) (h1 : s = c + x * p) (h2 : s = d + 4294967296 * c') : (o + d * q) + c' * (4294967296 * q) = (P + x * q) * p := by grind
/-- The cells of a block of digits. -/
def RowU (w : World) (g : Nat) (xs : List Int) : Prop := w.heap[g]? = some (.cells (xs.map (Value.int .u32)).toArray 77 (0, 0))
theorem OwnI.rowU {base : Nat} {W w : World} {g n : Nat} {xs : List Int} (h : OwnI .u32 base 77 W w (.slice (some ⟨g, 0, none⟩) n n) xs) : RowU w g xs ∧ base ≤ g ∧ g < w.heap.size ∧ n = xs.length := by
  obtain ⟨g', cap, hv, hb, hlt, hl, hm, hc, _⟩ := h.cell
  simp only [Value.slice.injEq, Option.some.injEq, Addr.mk.injEq, and_true] at hv
  obtain ⟨rfl, e1, e2⟩ := hv
  refine ⟨?_, hb, hlt, e1⟩
  rcases h.1.2 with ⟨h', _⟩ | ⟨g', cap', cur, h', _, hg, hn, _, hs, ht⟩
  · simp at h'
  · simp only [Value.slice.injEq, Option.some.injEq, Addr.mk.injEq, and_true] at h'
    obtain ⟨rfl, e3, e4⟩ := h'
    unfold RowU
    rw [hg]
    have : cur.toList = xs.map (Value.int .u32) := by
      rw [← ht, List.take_of_length_le]
      simp; omega
    rw [← this]

set_option maxRecDepth 100000 in
set_option maxHeartbeats 2000000 in
theorem up_any (xs : List Int) (a : Option Addr) (c : Nat) (m : Int) (s : Nat) (p : Int) (w : World) (ha : NatU w a c xs m) (hs : xs.length ≤ 400) (h31 : s ≤ 31) (hp : P2 s p) :
    Calls Tryd.prog 66 #[.slice a xs.length c, .int .i64 s] w fun e w' => ∃ g zs, e = .returned (.slice (some ⟨g, 0, none⟩) (xs.length + 1) (xs.length + 1)) ∧ Below w.heap.size w w' ∧ w.heap.size ≤ g ∧ RowU w' g zs ∧ zs.length = xs.length + 1 ∧ Dig zs ∧ val zs = m * p := by
  have HA := Lib.hid ha
  have HP := Lib.hid hp
  have bp0 := hp.bd h31
  clear ha hp
  obtain ⟨L, HL⟩ : ∃ L, Hid (xs.length = L) := ⟨_, Lib.hid rfl⟩
  rw [HL.out] at hs ⊢
  go_enter Tryd.func66, Tryd.ntmps66
  have hmk : wrap64 ((L : Int) + 1) = ((L + 1 : Nat) : Int) := by rw [IntWalk.wrap64_in _ ⟨by omega, by omega⟩]; omega
  go_wp2_with (at_make; go_loud (refine wpMake tU rfl _ _ rfl (L + 1) rfl rfl rfl rfl (by decide) (by omega) ?_); intro w1 hown)
  have HO1 := Lib.hid hown
  clear hown
  go_loopw [6, 15] (fun c i wr => ∃ (k : Nat) (cr : Int) (os : List Int), k ≤ L ∧ i = .int .i64 k ∧ c = .int .u64 cr ∧ (0 ≤ cr ∧ cr < p) ∧ Hid (os.length = L + 1 ∧ Dig os ∧ pk os k + cr * bp k = pk xs k * p) ∧ Hid (OwnI .u32 w.heap.size 77 w wr (.slice (some ⟨w.heap.size, 0, none⟩) (L + 1) (L + 1)) os)) (fun _ i _ => L - (intOf i).toNat)
  case atStart => exact ⟨0, 0, _, Nat.zero_le _, rfl, rfl, ⟨by omega, by omega⟩, Lib.hid ⟨List.length_replicate, dig_zero _, by simp [pk]⟩, HO1⟩
  case round =>
    obtain ⟨k, cr, os, hk, rfl, rfl, hcr, hst, ho⟩ := hrel
    obtain ⟨g, cap, hv, _, _, _, _, hc, hf⟩ := ho.out.cell
    simp only [Value.slice.injEq, Option.some.injEq, Addr.mk.injEq, and_true] at hv
    obtain ⟨rfl, -, -⟩ := hv
    have q1 := hc k (by rw [hst.out.1]; omega)
    have q2 := hf k
    obtain ⟨ov, HOV⟩ : ∃ o, Hid (os.getD k 0 = o) := ⟨_, Lib.hid rfl⟩
    rw [HOV.out] at q1
    clear hc hf
    by_cases hkL : k < L
    · obtain ⟨gx, ox, hax, hgx, hcx⟩ := (HA.out.later ho.out.below).cells (by rw [HL.out]; omega)
      have qx := hcx k (by rw [HL.out]; omega)
      obtain ⟨xv, HX⟩ : ∃ x, Hid (xs.getD k 0 = x) := ⟨_, Lib.hid rfl⟩
      have bx := HA.out.dig k
      rw [HX.out] at qx bx
      subst hax
      clear hcx hgx
      obtain ⟨tv, htv⟩ : ∃ t, xv * p = t := ⟨_, rfl⟩
      have bt0 := mul_le_of bx.1 bx.2 (show 0 ≤ p by omega) (show p ≤ p by omega)
      rw [htv] at bt0
      obtain ⟨sv, hsv⟩ : ∃ s, s = cr + tv := ⟨_, rfl⟩
      have e0 : Hid ((2 : Int) ^ s = p) := Lib.hid HP.out
      have HST : Hid ((os.set k (sv % 4294967296)).length = L + 1 ∧ Dig (os.set k (sv % 4294967296)) ∧ pk (os.set k (sv % 4294967296)) (k + 1) + (sv / 4294967296) * bp (k + 1) = pk xs (k + 1) * p) := Lib.hid (by
        obtain ⟨a1, a2, a3⟩ := hst.out
        refine ⟨by rw [List.length_set]; exact a1, a2.set k (by omega) (by omega), ?_⟩
        rw [pk_set_succ _ _ _ (by rw [a1]; omega), pk, bp, HX.out]
        exact up_step (s := sv) a3 (by rw [hsv, htv]) (by omega))
      have HO : Hid (OwnI .u32 w.heap.size 77 w (wr.setCell ⟨w.heap.size, k, none⟩ (.int .u32 (sv % 4294967296))) (.slice (some ⟨w.heap.size, 0, none⟩) (L + 1) (L + 1)) (os.set k (sv % 4294967296))) := Lib.hid (by
        have h := ho.out
        rw [← hst.out.1] at h ⊢
        exact h.stored k _)
      have v1 : IntKind.u64.wrap (xv * 2 ^ s) = tv := by rw [e0.out, htv, IntKind.wrap_u64]; omega
      have v2 : bits .or .u64 cr tv = sv := by
        rw [← htv, ← e0.out, u64_or_high s (by omega) (by rw [e0.out]; omega) bx.1 (by rw [e0.out, htv]; omega), e0.out, htv, hsv]
      have b1 : 0 ≤ sv ∧ sv ≤ 18446744073709551615 := by omega
      have v4 : IntKind.u32.wrap sv = sv % 4294967296 := IntKind.wrap_u32 _
      have cb : 0 ≤ sv / 4294967296 ∧ sv / 4294967296 < p := by omega
      clear hsv htv bt0
      go_wp2
      go_roundw
      case rel => exact ⟨k + 1, _, _, by omega, by go_num, rfl, cb, HST, HO⟩
      case measure => simp [intOf] <;> omega
    · have hke : k = L := by omega
      subst hke
      have HST : Hid ((os.set k cr).length = k + 1 ∧ Dig (os.set k cr) ∧ val (os.set k cr) = m * p) := Lib.hid (by
        obtain ⟨a1, a2, a3⟩ := hst.out
        refine ⟨by rw [List.length_set]; exact a1, a2.set k (by omega) (by omega), ?_⟩
        unfold val
        rw [List.length_set, a1, pk_set_succ _ _ _ (by rw [a1]; omega), a3, pk_ge (by rw [HL.out]; omega), HA.out.eq])
      have HO : Hid (OwnI .u32 w.heap.size 77 w (wr.setCell ⟨w.heap.size, k, none⟩ (.int .u32 cr)) (.slice (some ⟨w.heap.size, 0, none⟩) (k + 1) (k + 1)) (os.set k cr)) := Lib.hid (by
        have h := ho.out
        rw [← hst.out.1] at h ⊢
        exact h.stored k _)
      have v4 : IntKind.u32.wrap cr = cr := by rw [IntKind.wrap_u32]; omega
      go_wp2
      go_ret
      exact ⟨_, _, rfl, HO.out.below, HO.out.rowU.2.1, HO.out.rowU.1, HST.out.1, HST.out.2.1, HST.out.2.2⟩
theorem down_step {m P Q c q x t d c' p : Int} (h : m - (P + x * q) = Q * p + c * (4294967296 * q)) (h1 : t = c * 4294967296 + x) (h2 : t = d * p + c') : m - P = (Q + d * q) * p + c' * q := by grind
theorem div_bd {t p : Int} (hp : 0 < p) (h0 : 0 ≤ t) (h : t < p * 4294967296) : 0 ≤ t / p ∧ t / p ≤ 4294967295 ∧ 0 ≤ t % p ∧ t % p < p ∧ t = (t / p) * p + t % p := by
  have h1 := Int.ediv_nonneg h0 (Int.le_of_lt hp)
  have h2 := Int.emod_nonneg t (show p ≠ 0 by omega)
  have h3 := Int.emod_lt_of_pos t hp
  have h4 : t / p < 4294967296 := Int.ediv_lt_of_lt_mul hp (by rw [Int.mul_comm]; exact h)
  have h5 := Int.mul_ediv_add_emod t p
  rw [Int.mul_comm] at h5
  omega
theorem divmod_of {m Q c p : Int} (h : m = Q * p + c) (h0 : 0 ≤ c) (h1 : c < p) : m / p = Q ∧ m % p = c := by
  have e : m = c + p * Q := by rw [h, Int.mul_comm]; omega
  rw [e, Int.add_mul_ediv_left _ _ (by omega), Int.add_mul_emod_self_left, Int.ediv_eq_zero_of_lt h0 h1, Int.emod_eq_of_lt h0 h1]
  omega
set_option maxRecDepth 100000 in
set_option maxHeartbeats 2000000 in
theorem down_any (xs : List Int) (a : Option Addr) (c : Nat) (m : Int) (s : Nat) (p : Int) (w : World) (ha : NatU w a c xs m) (hs : xs.length ≤ 900) (h31 : s ≤ 31) (hp : P2 s p) :
    Calls Tryd.prog 68 #[.slice a xs.length c, .int .i64 s] w fun e w' => ∃ a' c' zs, e = .returned (.tuple #[.int .u32 (m % p), .slice a' zs.length c']) ∧ Below w.heap.size w w' ∧ NatU w' a' c' zs (m / p) := by
  have HA := Lib.hid ha
  have HP := Lib.hid hp
  have bp0 := hp.bd h31
  clear ha hp
  obtain ⟨L, HL⟩ : ∃ L, Hid (xs.length = L) := ⟨_, Lib.hid rfl⟩
  rw [HL.out] at hs ⊢
  go_enter Tryd.func68, Tryd.ntmps68
  go_wp2_with (at_make; go_loud (refine wpMake tU rfl _ _ rfl L rfl rfl rfl rfl (by decide) (by omega) ?_); intro w1 hown)
  have HO1 := Lib.hid hown
  clear hown
  go_loopw [7, 8] (fun c i wr => ∃ (k : Nat) (cr : Int) (os : List Int), k ≤ L ∧ i = .int .i64 ((k : Int) - 1) ∧ c = .int .u64 cr ∧ (0 ≤ cr ∧ cr < p) ∧ Hid (os.length = L ∧ Dig os ∧ m - pk xs k = (pk os L - pk os k) * p + cr * bp k) ∧ Hid (OwnI .u32 w.heap.size 77 w wr (.slice (some ⟨w.heap.size, 0, none⟩) L L) os)) (fun _ i _ => (intOf i + 1).toNat)
  case atStart => exact ⟨L, 0, _, Nat.le_refl _, rfl, rfl, ⟨by omega, by omega⟩, Lib.hid ⟨List.length_replicate, dig_zero _, by rw [pk_ge (xs := xs) (by rw [HL.out]; omega), HA.out.eq]; simp⟩, HO1⟩
  case round =>
    obtain ⟨k, cr, os, hk, rfl, rfl, hcr, hst, ho⟩ := hrel
    match k, hk, hst with
    | 0, hk, hst =>
      obtain ⟨a1, a2, a3⟩ := hst.out
      have a4 : m = val os * p + cr := by
        unfold val
        rw [a1]
        simp only [pk, bp, Int.sub_zero, Int.mul_one] at a3
        omega
      obtain ⟨d1, d2⟩ := divmod_of a4 (by omega) (by omega)
      obtain ⟨g, cc, hv, hU, hge⟩ := ho.out.hasU
      rw [a1] at hv
      simp only [Value.slice.injEq, Option.some.injEq, Addr.mk.injEq, and_true] at hv
      obtain ⟨rfl, -, rfl⟩ := hv
      have hT := trim_any os _ _ wr hU (.inr ⟨_, _, rfl⟩) a2 (by rw [a1]; omega)
      rw [a1, ← d1] at hT
      have HB := Lib.hid ho.out.below
      have HD2 := Lib.hid d2
      have v4 : IntKind.u32.wrap cr = cr := by rw [IntKind.wrap_u32]; omega
      clear a1 a2 a3 a4 d1 d2 hU
      go_wp2_with (go_at_call 53; refine hT.mono ?_; rintro e w2 ⟨ra, rc, rx, rfl, hn, hb2⟩)
      go_ret2
      exact ⟨ra, rc, rx, by rw [HD2.out]; rfl, bw_call HB.out hb2, hn⟩
    | k + 1, hk, hst =>
      have ek : ((k + 1 : Nat) : Int) - 1 = (k : Int) := by omega
      rw [ek]
      clear ek
      obtain ⟨g, cap, hv, _, _, _, _, hc, hf⟩ := ho.out.cell
      simp only [Value.slice.injEq, Option.some.injEq, Addr.mk.injEq, and_true] at hv
      obtain ⟨rfl, -, -⟩ := hv
      have q1 := hc k (by rw [hst.out.1]; omega)
      have q2 := hf k
      obtain ⟨ov, HOV⟩ : ∃ o, Hid (os.getD k 0 = o) := ⟨_, Lib.hid rfl⟩
      rw [HOV.out] at q1
      clear hc hf
      obtain ⟨gx, ox, hax, hgx, hcx⟩ := (HA.out.later ho.out.below).cells (by rw [HL.out]; omega)
      have qx := hcx k (by rw [HL.out]; omega)
      obtain ⟨xv, HX⟩ : ∃ x, Hid (xs.getD k 0 = x) := ⟨_, Lib.hid rfl⟩
      have bx := HA.out.dig k
      rw [HX.out] at qx bx
      subst hax
      clear hcx hgx
      have e0 : Hid ((2 : Int) ^ s = p) := Lib.hid HP.out
      obtain ⟨tv, htv⟩ : ∃ t, t = cr * 4294967296 + xv := ⟨_, rfl⟩
      have v1 : IntKind.u64.wrap (cr * 4294967296) = cr * 4294967296 := by rw [IntKind.wrap_u64]; omega
      have v2 : bits .or .u64 (cr * 4294967296) xv = tv := by rw [u64_or_low bx.1 (by omega) (by omega) (by omega), htv]
      have bt : 0 ≤ tv ∧ tv ≤ 18446744073709551615 := by omega
      obtain ⟨d0, d1, d2, d3, d4⟩ := div_bd (t := tv) (p := p) (by omega) (by omega) (by omega)
      have v7 : bits .and .u64 tv (p - 1) = tv % p := by rw [← e0.out]; exact u64_mask s (by omega) (by omega) (by omega)
      have v5 : IntKind.u64.wrap (2 ^ s) = p := by rw [e0.out, IntKind.wrap_u64]; omega
      have v6 : IntKind.u64.wrap (p - 1) = p - 1 := by rw [IntKind.wrap_u64]; omega
      have v3 : tv / 2 ^ s = tv / p := by rw [e0.out]
      obtain ⟨dv, hdv⟩ : ∃ d, tv / p = d := ⟨_, rfl⟩
      obtain ⟨cv, hcv⟩ : ∃ d, tv % p = d := ⟨_, rfl⟩
      rw [hdv] at v3 d0 d1 d4
      rw [hcv] at v7 d2 d3 d4
      have HST : Hid ((os.set k dv).length = L ∧ Dig (os.set k dv) ∧ m - pk xs k = (pk (os.set k dv) L - pk (os.set k dv) k) * p + cv * bp k) := Lib.hid (by
        obtain ⟨a1, a2, a3⟩ := hst.out
        refine ⟨by rw [List.length_set]; exact a1, a2.set k (by omega) (by omega), ?_⟩
        rw [pk_set_below (by rw [a1]; omega) (by omega), pk_set _ _ _ (by rw [a1]; omega) k (Nat.le_refl _)]
        rw [pk, pk, bp, HX.out] at a3
        have := down_step a3 htv d4
        rw [this]
        grind)
      have HO : Hid (OwnI .u32 w.heap.size 77 w (wr.setCell ⟨w.heap.size, k, none⟩ (.int .u32 dv)) (.slice (some ⟨w.heap.size, 0, none⟩) L L) (os.set k dv)) := Lib.hid (by
        have h := ho.out
        rw [← hst.out.1] at h ⊢
        exact h.stored k _)
      have v4 : IntKind.u32.wrap dv = dv := by rw [IntKind.wrap_u32]; omega
      have cb : 0 ≤ cv ∧ cv < p := ⟨d2, d3⟩
      clear htv d4 hdv hcv
      go_wp2
      go_roundw
      case rel => exact ⟨k, _, _, by omega, by go_num, rfl, cb, HST, HO⟩
      case measure => simp [intOf] <;> omega
end Go.Proofs.YthkmhpkoanmbkaaDoor
