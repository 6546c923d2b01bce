/-
  Contracts of natural numbers of any size: small, Clone of digits. Conditions stand in each contract.
-/
import Derived.Test.YthkmhpkoanmbkaaDoorN6
import Derived.Test.YthkmhpkoanmbkaaDoorShelf
import Derived.Lib.SliceRun
import Derived.Laws.CopyOwn
namespace Go.Proofs.YthkmhpkoanmbkaaDoor
open Go.RowKit
set_option linter.unusedVariables false

theorem and_max {n : Int} (h0 : 0 ≤ n) (h1 : n < 18446744073709551616) : bits .and .u64 n 9223372036854775807 = n % 9223372036854775808 := by
  have := u64_mask (c := n) 63 h0 h1 (by omega)
  simpa using this
/-- What small hands back. -/
def SmallR (m : Int) (w : World) (e : Ending) (w' : World) : Prop := ∃ v b, e = .returned (.tuple #[.int .i64 v, .bool b]) ∧ w' = w ∧ (b = true ↔ m ≤ 1000000000000000000) ∧ (b = true → v = m)
set_option maxRecDepth 100000 in
set_option maxHeartbeats 2000000 in
theorem small_any (xs : List Int) (a : Option Addr) (c : Nat) (m : Int) (w : World) (ha : NatU w a c xs m) :
    Calls Tryd.prog 52 #[.slice a xs.length c] w fun e w' => SmallR m w e w' := by
  have HA := Lib.hid ha
  have hs := ha.short
  clear ha
  obtain ⟨L, HL⟩ : ∃ L, Hid (xs.length = L) := ⟨_, Lib.hid rfl⟩
  rw [HL.out] at hs ⊢
  by_cases h2 : 2 < L
  · have hbig : Hid (¬ m ≤ 1000000000000000000) := Lib.hid (by
      have h1 := norm_low HA.out.dig HA.out.norm (by rw [HL.out]; omega)
      have h3 := bp_mono (show 2 ≤ xs.length - 1 by rw [HL.out]; omega)
      rw [HA.out.eq] at h1
      simp only [bp] at h3
      omega)
    go_enter Tryd.func52, Tryd.ntmps52
    go_wp2
    go_ret2
    exact ⟨_, _, rfl, rfl, ⟨fun h => (by cases h), fun h => (by have := hbig.out; omega)⟩, fun h => (by cases h)⟩
  · go_enter Tryd.func52, Tryd.ntmps52
    go_wp2
    go_loopw [4, 12] (fun v i wr => ∃ k : Nat, k ≤ L ∧ i = .int .i64 k ∧ v = .int .u64 (pk xs k) ∧ wr = w) (fun _ i _ => L - (intOf i).toNat)
    case atStart => exact ⟨0, Nat.zero_le _, rfl, rfl, rfl⟩
    case round =>
      obtain ⟨k, hk, rfl, rfl, rfl⟩ := hrel
      have hb := pk_bd HA.out.dig k
      by_cases hkL : k < L
      · obtain ⟨gx, ox, hax, hgx, hcx⟩ := HA.out.cells (by rw [HL.out]; omega)
        have qx := hcx k (by rw [HL.out]; omega)
        obtain ⟨xv, HX⟩ : ∃ x, Hid (xs.getD k 0 = x) := ⟨_, Lib.hid rfl⟩
        have bx := HA.out.dig k
        rw [HX.out] at qx bx
        subst hax
        clear hcx hgx
        have HN : Hid (pk xs (k + 1) = pk xs k + xv * bp k) := Lib.hid (by rw [pk, HX.out])
        obtain ⟨n, hn⟩ : ∃ n, pk xs k = n := ⟨_, rfl⟩
        rw [hn] at HN hb ⊢
        rcases (show k = 0 ∨ k = 1 by omega) with rfl | rfl
        · rw [show ((0 : Nat) : Int) = 0 from rfl]
          rw [Nat.add_zero] at qx
          have v1 : IntKind.u64.wrap xv = xv := by rw [IntKind.wrap_u64]; omega
          have v2 : bits .or .u64 n xv = n + xv * 1 := by
            simp only [bp] at hb
            have := u64_or_high (c := n) (x := xv) 0 hb.1 (by simpa using hb.2) bx.1 (by simp; omega)
            simpa using this
          clear hn
          go_wp2
          go_roundw
          case rel => exact ⟨1, by omega, by go_num, by rw [HN.out]; simp [bp], (by first | rfl | trivial)⟩
          case measure => simp [intOf] <;> omega
        · simp only [bp] at hb
          have v1 : IntKind.u64.wrap (xv * 4294967296) = xv * 4294967296 := by rw [IntKind.wrap_u64]; omega
          have v2 : bits .or .u64 n (xv * 4294967296) = n + xv * 4294967296 := by
            have := u64_or_high (c := n) (x := xv) 32 hb.1 (by simpa using hb.2) bx.1 (by simp; omega)
            simpa using this
          clear hn
          go_wp2
          go_roundw
          case rel => exact ⟨2, by omega, by go_num, by rw [HN.out]; rfl, (by first | rfl | trivial)⟩
          case measure => simp [intOf] <;> omega
      · have hke : k = L := by omega
        subst hke
        have hm : pk xs k = m := by rw [pk_ge (by rw [HL.out]; omega), HA.out.eq]
        have hb2 := bp_mono (show k ≤ 2 by omega)
        rw [hm] at hb ⊢
        simp only [bp] at hb2
        have hb3 : 0 ≤ m ∧ m < 18446744073709551616 := by omega
        have v1 := and_max hb3.1 hb3.2
        have v2 : m ≤ 1000000000000000000 → m % 9223372036854775808 = m := fun h => by omega
        clear hb hb2 hm
        by_cases hle : m ≤ 1000000000000000000
        · have v3 := v2 hle
          have v4 : IntKind.i64.wrap m = m := by rw [IntKind.wrap_i64]; omega
          go_wp2
          go_ret2
          exact ⟨m, true, by simp, rfl, ⟨fun _ => hle, fun _ => rfl⟩, fun _ => rfl⟩
        · have HLE := Lib.hid hle
          go_wp2
          go_ret2
          exact ⟨_, false, by simp; rfl, rfl, ⟨fun h => (by cases h), fun h => (by have := HLE.out; omega)⟩, fun h => (by cases h)⟩
theorem HasU.at {w : World} {g o c : Nat} {xs : List Int} (h : HasU w (some ⟨g, o, none⟩) c xs) : g < w.heap.size ∧ ∀ j, j < xs.length → w.cell? ⟨g, o + j, none⟩ = some (.int .u32 (xs.getD j 0)) := h.2.2.2 g o rfl
theorem map_at {xs : List Int} {j : Nat} {u : Value} (h : (xs.map (Value.int .u32))[j]? = some u) : j < xs.length ∧ u = .int .u32 (xs.getD j 0) := by
  by_cases hj : j < xs.length
  · rw [List.getElem?_map, List.getElem?_eq_getElem hj] at h
    simp at h
    exact ⟨hj, by rw [← h]; simp [List.getD, hj]⟩
  · rw [List.getElem?_eq_none (by simpa using hj)] at h; cases h
set_option maxRecDepth 100000 in
theorem clone_any (zs : List Int) (g o c : Nat) (w : World) (h : HasU w (some ⟨g, o, none⟩) c zs) (hl : zs.length ≤ 900) :
    Calls Tryd.prog 67 #[.slice (some ⟨g, o, none⟩) zs.length c] w fun e w' => ∃ a' c', e = .returned (.slice a' zs.length c') ∧ HasU w' a' c' zs ∧ SpotFree a' ∧ Below w.heap.size w w' := by
  have H := Lib.hid h
  clear h
  obtain ⟨L, HL⟩ : ∃ L, Hid (zs.length = L) := ⟨_, Lib.hid rfl⟩
  obtain ⟨news, hnews⟩ : ∃ news, news = zs.map (Value.int .u32) := ⟨_, rfl⟩
  have HN := Lib.hid hnews
  clear hnews
  rw [HL.out] at hl ⊢
  obtain ⟨i0, hi, hz0, hz1, hz2⟩ := tU.info
  have HI := Lib.hid hi
  have q22 : ∀ (w : World) (a : Option Addr) (n c n' c' : Nat), (binOp .eql 47 (.slice a n c) (.slice none n' c')).run Tryd.prog w = .ok (.bool a.isNone) w := fun w a n c n' c' => Lib.run_eql_slice_nil w _ _ a n c n' c' tU.under
  clear hi
  go_enter Tryd.func67, Tryd.ntmps67
  go_wp2_with (at_builtin; refine wpList_append_own _ rfl _ _ 47 rfl w.heap.size 77 i0 (.int .u32 0) 1 4 tU.under HI.out hz0 hz1 hz2 rfl (by decide) _ _ _ rfl (World.ownsRow_made w #[] 0 (Nat.le_refl _) (Nat.zero_le _) (by simp)) ⟨g, o, none⟩ L c news rfl ?qc1 ?qc2 ?qc3 ?qc4 ?qc5 ?qc6 ?_)
  case qc1 => rw [HN.out]; simp [HL.out]
  case qc2 =>
    intro j u hj
    rw [HN.out] at hj
    obtain ⟨hj1, rfl⟩ := map_at hj
    rw [Addr.add_lit]
    exact Lib.cell?_alloc_some _ (H.out.at.2 j hj1)
  case qc3 =>
    intro u hu
    rw [HN.out] at hu
    simp at hu
    obtain ⟨z, _, rfl⟩ := hu
    rfl
  case qc4 => unfold maxLen; omega
  case qc5 => omega
  case qc6 => simp
  intro v' w1 hown hgrow hnil
  have HO := Lib.hid hown
  have HG := Lib.hid hgrow
  have HN2 := Lib.hid hnil
  clear hown hgrow hnil
  go_wp2
  go_ret
  have hb : Below w.heap.size w w1 := ((Below.refl _ w).alloc (Nat.le_refl _) _).grown HG.out (by simp) (by intro k hk; simp [Value.ownBlock] at hk; omega)
  have ho := HO.out
  rcases ho.2 with ⟨h', _⟩ | ⟨g', cap, cur, h', hge, hgc, hn, hm, hs, ht⟩
  · exact absurd h' (by simpa using HN2.out)
  · subst h'
    refine ⟨some ⟨g', 0, none⟩, cap, rfl, ⟨by rw [HL.out]; exact hn, hm, fun e => (by cases e), fun g2 o2 e => ?_⟩, .inr ⟨_, _, rfl⟩, hb⟩
    simp only [Option.some.injEq, Addr.mk.injEq, and_true] at e
    obtain ⟨rfl, rfl⟩ := e
    refine ⟨(Array.getElem?_eq_some_iff.1 hgc).1, fun j hj => ?_⟩
    rw [Nat.zero_add, ho.cellAt j (by rw [HL.out] at hj; omega)]
    simp [HN.out, List.getD, hj]
end Go.Proofs.YthkmhpkoanmbkaaDoor
