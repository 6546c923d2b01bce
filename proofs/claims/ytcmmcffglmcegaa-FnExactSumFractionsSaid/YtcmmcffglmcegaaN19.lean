/-
  Lists of fractions that a law copies and compares (toFractionS, eqFractionS, szFractionS). Conditions stand in each contract.
-/
import Derived.Test.YtcmmcffglmcegaaN18
import Derived.Test.YtcmmcffglmcegaaC9
namespace Go.Proofs.Ytcmmcffglmcegaa
open Go.RowKit
set_option linter.unusedVariables false

/-- A list of fractions that was laid: any place in a block. -/
def LayF (w : World) (a : Option Addr) (len : Nat) (fs : List (Int × Int)) : Prop :=
  fs.length = len ∧ (0 < len → ∃ b off, a = some ⟨b, off, none⟩ ∧ b < w.heap.size ∧ ∀ j, j < len → w.cell? ⟨b, off + 2 * j, none⟩ = some (.int .i64 (fs.getD j (0, 0)).1) ∧ w.cell? ⟨b, off + 2 * j + 1, none⟩ = some (.int .i64 (fs.getD j (0, 0)).2))
theorem LayF.later {w w' : World} {a : Option Addr} {len : Nat} {fs : List (Int × Int)} (h : LayF w a len fs) (hb : Below w.heap.size w w') : LayF w' a len fs := by
  refine ⟨h.1, fun h0 => ?_⟩
  obtain ⟨b, off, h1, h2, h3⟩ := h.2 h0
  refine ⟨b, off, h1, Nat.lt_of_lt_of_le h2 hb.size, fun j hj => ?_⟩
  rw [hb.cell (p := ⟨b, off + 2 * j, none⟩) h2, hb.cell (p := ⟨b, off + 2 * j + 1, none⟩) h2]
  exact h3 j hj
/-- A call hands back a list of fractions. -/
def RetFL (fs : List (Int × Int)) (w : World) (e : Ending) (w' : World) : Prop := ∃ a c, e = .returned (.slice a fs.length c) ∧ HasF w' a fs ∧ Below w.heap.size w w'
theorem infoF : ∃ i, Try.prog.info? 24 = some i ∧ i.zero = some (.agg #[.int .i64 0, .int .i64 0]) ∧ i.size = 2 ∧ i.bytes = 16 := info_parts (by kernel_rfl)
theorem wpMakeF {ops : Array Oper} {rest : List Oper} {o : Oper} {a : Act} {Q : Exit → Act → World → Prop} (hgd : o.guard = none) (l c : Operand)
    (hop : o.op = Op.makeSlice 35 l c) {w : World} {kl kc : IntKind} {L C : Int} (n : Nat) (hl : a.eval l = .int kl L) (hc : a.eval c = .int kc C) (hL : L = (n : Int)) (hC : C = (n : Int)) (hn : n ≤ 1000000000000)
    (h : ∀ w' cur, Blk w' w.heap.size cur 24 → cur.size = 2 * n → Below w.heap.size w w' → wpList Try.prog ops Q rest (a.put o.dst (.slice (some ⟨w.heap.size, 0, none⟩) n n)) w') : wpList Try.prog ops Q (o :: rest) a w := by
  obtain ⟨i, hi, hz0, hz1, hz2⟩ := infoF
  refine wpList_make_full w hgd l c _ hop w.heap.size 24 i (.agg #[.int .i64 0, .int .i64 0]) 2 Try.underlying35 hi hz0 hz1 kl kc L C n hl hc hL hC ?_ ?_ (Nat.le_refl _) ?_
  · rw [hz2]; omega
  · unfold maxLen; omega
  · intro w' hown hgrow
    have hB : Below w.heap.size w w' := (Below.refl _ w).grown hgrow (Nat.le_refl _) (fun _ h => by cases h)
    obtain ⟨_, hown⟩ := hown
    rcases hown with ⟨h1, _⟩ | ⟨g, cap, cur, h1, _, h3, _, _, h6, _⟩
    · cases h1
    · simp only [Value.slice.injEq, Option.some.injEq, Addr.mk.injEq, and_true] at h1
      obtain ⟨h7, _, h8⟩ := h1
      subst h7
      exact h w' cur h3 (by omega) hB
set_option maxRecDepth 100000 in
theorem toFractionS_any (a : Option Addr) (len cap : Nat) (fs : List (Int × Int)) (w : World) (h : LayF w a len fs) (hl : len ≤ 1048576) :
    Calls Try.prog 23 #[.slice a len cap] w (RetFL fs w) := by
  have H := Lib.hid h
  clear h
  go_enter Try.func23, Try.ntmps23
  go_wp2_with (at_make; refine wpMakeF rfl _ _ rfl len rfl rfl rfl rfl (by omega) ?_; intro w1 cur0 hblk0 hsz0 hbel0)
  have HB0 := Lib.hid hblk0
  have HS0 := Lib.hid hsz0
  have HE0 := Lib.hid hbel0
  clear hblk0 hsz0 hbel0
  go_loopw [4] (fun i wr => ∃ (n : Nat) (cur : Array Value), n ≤ len ∧ i = .int .i64 n ∧ Hid (Blk wr w.heap.size cur 24 ∧ cur.size = 2 * len ∧ (∀ j, j < n → cur[2 * j]? = some (.int .i64 (fs.getD j (0, 0)).1) ∧ cur[2 * j + 1]? = some (.int .i64 (fs.getD j (0, 0)).2)) ∧ Below w.heap.size w wr)) (fun i _ => len - (intOf i).toNat)
  case atStart => exact ⟨0, cur0, Nat.zero_le _, rfl, Lib.hid ⟨HB0.out, HS0.out, fun j hj => by omega, HE0.out⟩⟩
  case round =>
    obtain ⟨n, cur, hn, rfl, hI⟩ := hrel
    clear HB0 HS0 HE0
    by_cases hlt : n < len
    · obtain ⟨b, off, rfl, hb, hc⟩ := (H.out.later hI.out.2.2.2).2 (by omega)
      obtain ⟨q1, q2⟩ := hc n hlt
      clear hc
      obtain ⟨z, hz⟩ : ∃ z, Hid (fs.getD n (0, 0) = z) := ⟨_, Lib.hid rfl⟩
      rw [hz.out] at q1 q2
      obtain ⟨m, e⟩ := z
      simp only at q1 q2
      have r0 : (0 : Int) ≤ (n : Int) := by omega
      have r1 : (n : Int) < (len : Int) := by omega
      have r2 : n * 2 = 2 * n := by omega
      go_wp2_with fail
      refine (toFraction_any m e _).mono ?_
      rintro r w2 ⟨rfl, hb2⟩
      have K2 := Lib.hid (show Blk w2 w.heap.size cur 24 from hI.out.1.later hb2)
      have HB2 := Lib.hid (bw_call hI.out.2.2.2 hb2)
      have hsz := hI.out.2.1
      have HM := Lib.hid hI.out.2.2.1
      clear hb2 hI q1 q2
      have p0 : 2 * n < cur.size := by omega
      have p1 : 2 * n + 1 < cur.size := by omega
      obtain ⟨v0, hv0⟩ : ∃ v, cur[2 * n]? = some v := ⟨_, Array.getElem?_eq_getElem p0⟩
      obtain ⟨v1, hv1⟩ : ∃ v, cur[2 * n + 1]? = some v := ⟨_, Array.getElem?_eq_getElem p1⟩
      have c0 := K2.out.cell (2 * n) hv0
      have c1 := K2.out.cell (2 * n + 1) hv1
      clear hv0 hv1
      have f0 := K2.out.free (2 * n)
      have f1 := K2.out.free (2 * n + 1)
      have S2 := Lib.hid ((K2.out.set (2 * n) (.int .i64 m)).set (2 * n + 1) (.int .i64 e))
      have HM2 : Hid (∀ j, j < n + 1 → ((cur.setIfInBounds (2 * n) (.int .i64 m)).setIfInBounds (2 * n + 1) (.int .i64 e))[2 * j]? = some (.int .i64 (fs.getD j (0, 0)).1) ∧ ((cur.setIfInBounds (2 * n) (.int .i64 m)).setIfInBounds (2 * n + 1) (.int .i64 e))[2 * j + 1]? = some (.int .i64 (fs.getD j (0, 0)).2)) := Lib.hid fun j hj => by
        by_cases e' : j = n
        · subst e'
          rw [hz.out]
          refine ⟨?_, ?_⟩
          · rw [Array.getElem?_setIfInBounds_ne (by omega), Array.getElem?_setIfInBounds_self_of_lt p0]
          · rw [Array.getElem?_setIfInBounds_self_of_lt (by rw [Array.size_setIfInBounds]; exact p1)]
        · obtain ⟨k1, k2⟩ := HM.out j (by omega)
          refine ⟨?_, ?_⟩
          · rw [Array.getElem?_setIfInBounds_ne (by omega), Array.getElem?_setIfInBounds_ne (by omega)]; exact k1
          · rw [Array.getElem?_setIfInBounds_ne (by omega), Array.getElem?_setIfInBounds_ne (by omega)]; exact k2
      have HSZ2 : Hid (((cur.setIfInBounds (2 * n) (.int .i64 m)).setIfInBounds (2 * n + 1) (.int .i64 e)).size = 2 * len) := Lib.hid (by rw [Array.size_setIfInBounds, Array.size_setIfInBounds]; exact hsz)
      clear HM hsz p0 p1
      go_wp2
      go_roundw
      case rel => exact ⟨n + 1, _, by omega, by go_num, Lib.hid ⟨S2.out, HSZ2.out, HM2.out, bw_setCell (bw_setCell HB2.out (by simp) _) (by simp) _⟩⟩
      case measure => simp [intOf]; omega
    · have hke : n = len := by omega
      subst hke
      go_wp2
      go_ret
      refine ⟨some ⟨w.heap.size, 0, none⟩, n, by rw [H.out.1]; rfl, fun h0 => ⟨w.heap.size, rfl, hI.out.1.lt, fun j hj => ?_⟩, hI.out.2.2.2⟩
      obtain ⟨k1, k2⟩ := hI.out.2.2.1 j (by rw [← H.out.1]; exact hj)
      exact ⟨hI.out.1.cell _ k1, hI.out.1.cell _ k2⟩
set_option maxRecDepth 100000 in
theorem eqFractionS_same (fs : List (Int × Int)) (a1 a2 : Option Addr) (c1 c2 : Nat) (w : World) (h1 : HasF w a1 fs) (h2 : HasF w a2 fs) (hx : fs.length < 1000000000000) :
    Calls Try.prog 25 #[.slice a1 fs.length c1, .slice a2 fs.length c2] w fun r w' => r = .returned (.bool true) ∧ Below w.heap.size w w' := by
  have H1 := Lib.hid h1
  have H2 := Lib.hid h2
  clear h1 h2
  obtain ⟨L, HL⟩ : ∃ L, Hid (fs.length = L) := ⟨_, Lib.hid rfl⟩
  rw [HL.out] at hx ⊢
  go_enter Try.func25, Try.ntmps25
  go_wp2_with fail
  go_loopw [5] (fun i wr => ∃ k : Nat, k ≤ L ∧ i = .int .i64 k ∧ Hid (Below w.heap.size w wr)) (fun i _ => L - (intOf i).toNat)
  case atStart => exact ⟨0, Nat.zero_le _, rfl, Lib.hid (bw_refl _)⟩
  case round =>
    obtain ⟨k, hk, rfl, hB⟩ := hrel
    by_cases hlt : k < L
    · obtain ⟨g, rfl, _, hc⟩ := (H1.out.later hB.out) (by rw [HL.out]; omega)
      obtain ⟨q1, q2⟩ := hc k (by rw [HL.out]; omega)
      clear hc
      obtain ⟨g', rfl, _, hc⟩ := (H2.out.later hB.out) (by rw [HL.out]; omega)
      obtain ⟨q3, q4⟩ := hc k (by rw [HL.out]; omega)
      clear hc
      obtain ⟨z, hz⟩ : ∃ z, Hid (fs.getD k (0, 0) = z) := ⟨_, Lib.hid rfl⟩
      rw [hz.out] at q1 q2 q3 q4
      obtain ⟨n, d⟩ := z
      simp only at q1 q2 q3 q4
      have r0 : (0 : Int) ≤ (k : Int) := by omega
      have r1 : (k : Int) < (L : Int) := by omega
      have r2 : k * 2 = 2 * k := by omega
      go_wp2_with fail
      go_region_held3 (fun w' => w'.cell? ⟨g, 2 * k, none⟩ = some (.int .i64 n) ∧ w'.cell? ⟨g, 2 * k + 1, none⟩ = some (.int .i64 d) ∧ w'.cell? ⟨g', 2 * k, none⟩ = some (.int .i64 n) ∧ w'.cell? ⟨g', 2 * k + 1, none⟩ = some (.int .i64 d)) (go_keep)
        (first | (go_at_call 12; refine (eqFraction_same n d _).mono ?_; rintro e w1 ⟨rfl, hb1⟩
                  have HB1 := bw_call (bw_drew hB.out) hb1
                  obtain ⟨ga, ea, _, hc1⟩ := (H1.out.later HB1) (by rw [HL.out]; omega)
                  cases ea
                  obtain ⟨k1, k2⟩ := hc1 k (by rw [HL.out]; omega)
                  obtain ⟨gb, eb, _, hc2⟩ := (H2.out.later HB1) (by rw [HL.out]; omega)
                  cases eb
                  obtain ⟨k3, k4⟩ := hc2 k (by rw [HL.out]; omega)
                  rw [hz.out] at k1 k2 k3 k4
                  simp only at k1 k2 k3 k4
                  clear hc1 hc2))
      have HB1 := Lib.hid HB1
      clear hb1
      go_wp2
      go_roundw
      case rel => exact ⟨k + 1, by omega, by go_num, HB1⟩
      case measure => simp [intOf]; omega
    · have hke : k = L := by omega
      subst hke
      go_wp2
      go_ret
      exact ⟨rfl, hB.out⟩
theorem szFractionS_any (a : Option Addr) (len cap : Nat) (left : Int) (w : World) (h0 : 0 ≤ left ∧ left ≤ 1048576) (hl : len ≤ maxLen) :
    Calls Try.prog 21 #[.slice a len cap, .int .i64 left] w fun r w' => r = .returned (.int .i64 (if left - len < 0 then -1 else left - len)) ∧ w = w' := by
  have hl2 : len ≤ 9223372036854775807 := hl
  by_cases c : left - len < 0
  · rw [if_pos c]
    have c1 : decide (left - (len : Int) < 0) = true := decide_eq_true c
    have e1 : IntKind.i64.wrap (left - (len : Int)) = left - len := by rw [IntKind.wrap_i64]; omega
    go_enter Try.func21, Try.ntmps21
    go_wp2
    go_ret
    exact ⟨rfl, rfl⟩
  · rw [if_neg c]
    have c1 : decide (left - (len : Int) < 0) = false := decide_eq_false c
    have e1 : IntKind.i64.wrap (left - (len : Int)) = left - len := by rw [IntKind.wrap_i64]; omega
    go_enter Try.func21, Try.ntmps21
    go_wp2
    go_ret
    exact ⟨rfl, rfl⟩
end Go.Proofs.Ytcmmcffglmcegaa
