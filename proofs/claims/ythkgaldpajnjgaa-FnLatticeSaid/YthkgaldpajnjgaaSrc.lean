/-
  Contracts of the source of choices: l00From, next, pick, one. Conditions: the code is a row of bytes that came in; few choices were drawn.
-/
import Derived.Test.YthkgaldpajnjgaaKit
import Derived.Test.YthkgaldpajnjgaaBlk
import Derived.Test.YthkgaldpajnjgaaLs2
import Derived.Laws.BitsAllLaws
namespace Go.Proofs.Ythkgaldpajnjgaa
open Go.RowKit
set_option linter.unusedVariables false

theorem u64_and255 (y : Int) : 0 ≤ bits .and .u64 y 255 ∧ bits .and .u64 y 255 ≤ 255 := by
  show 0 ≤ IntKind.u64.wrap ((BitVec.ofInt 64 y &&& BitVec.ofInt 64 255).toNat : Int) ∧ IntKind.u64.wrap ((BitVec.ofInt 64 y &&& BitVec.ofInt 64 255).toNat : Int) ≤ 255
  have h1 : (BitVec.ofInt 64 255).toNat = 255 := by decide
  have h2 : (BitVec.ofInt 64 y).toNat &&& 255 ≤ 255 := Nat.and_le_right
  rw [BitVec.toNat_and, h1, IntKind.wrap_u64]
  omega
theorem wrap_and255 (y : Int) : 0 ≤ wrap64 (bits .and .u64 y 255) ∧ wrap64 (bits .and .u64 y 255) ≤ 255 := by
  have h := u64_and255 y
  rw [IntWalk.wrap64_in _ ⟨by omega, by omega⟩]
  exact h
/-- The source at block p: the code, how many choices were drawn, the seed. -/
def SrcAt (w : World) (p : Nat) (a : Option Addr) (len cap : Nat) (at_ : Nat) (seed : Int) : Prop := Blk w p #[.slice a len cap, .int .i64 (at_ : Int), .int .u64 seed] 47
/-- The code's bytes, in blocks below B. -/
def CodeAt (w : World) (B : Nat) (a : Option Addr) (len cap : Nat) (zs : List Int) : Prop := IsRow .u8 w a len cap zs ∧ B ≤ w.heap.size ∧ (0 < zs.length → ∀ x, a = some x → x.block < B)
theorem CodeAt.of {w : World} {a : Option Addr} {len cap : Nat} {zs : List Int} (h : IsRow .u8 w a len cap zs) : CodeAt w w.heap.size a len cap zs := by
  refine ⟨h, Nat.le_refl _, fun h0 x hx => ?_⟩
  rcases h with ⟨_, _, _, rfl⟩ | ⟨y, h1, _, h2, h3, h4, _⟩
  · simp at h0
  · rw [hx] at h1
    cases h1
    have := World.block_lt_of_cell? w _ (h4 0 h0)
    have hbl : (x.add 0).block = x.block := by unfold Addr.add; split <;> rfl
    rwa [hbl] at this
theorem CodeAt.kept {w w' : World} {B : Nat} {a : Option Addr} {len cap : Nat} {zs : List Int} (h : CodeAt w B a len cap zs) (hs : w.heap.size ≤ w'.heap.size) (hb : ∀ k, k < B → w'.heap[k]? = w.heap[k]?) : CodeAt w' B a len cap zs := by
  obtain ⟨h1, h2, h3⟩ := h
  refine ⟨?_, Nat.le_trans h2 hs, h3⟩
  rcases h1 with h | ⟨x, rfl, g1, g2, g3, g4, g5⟩
  · exact .inl h
  · refine .inr ⟨x, rfl, g1, g2, g3, fun i hi => ?_, g5⟩
    rw [← g4 i hi]
    have hx := h3 (by omega) x rfl
    have hbl : (x.add i).block = x.block := by unfold Addr.add; split <;> rfl
    exact World.cell?_of_block (hb _ (by rw [hbl]; exact hx))
theorem CodeAt.far {w w' : World} {B p : Nat} {a : Option Addr} {len cap : Nat} {zs : List Int} (h : CodeAt w B a len cap zs) (hf : FarI p (p + 1) w w') (hp : B ≤ p) : CodeAt w' B a len cap zs :=
  h.kept hf.size fun k hk => hf.block k (by have := h.2.1; omega) (by omega)
theorem CodeAt.later {w w' : World} {B : Nat} {a : Option Addr} {len cap : Nat} {zs : List Int} (h : CodeAt w B a len cap zs) (hb : Below B w w') : CodeAt w' B a len cap zs := h.kept hb.size hb.block
theorem FarI.refl (lo hi : Nat) (w : World) : FarI lo hi w w := ⟨rfl, rfl, rfl, Nat.le_refl _, fun _ _ _ => rfl⟩
theorem FarI.trans {lo hi : Nat} {a b c : World} (h : FarI lo hi a b) (k : FarI lo hi b c) : FarI lo hi a c :=
  ⟨k.os.trans h.os, k.tape.trans h.tape, k.output.trans h.output, Nat.le_trans h.size k.size, fun i hi hn => (k.block i (Nat.lt_of_lt_of_le hi h.size) hn).trans (h.block i hi hn)⟩
theorem FarI.drewN {lo hi : Nat} {a b : World} (h : FarI lo hi a b) (n : Nat) : FarI lo hi a (b.drewN n) := ⟨h.os, h.tape, h.output, h.size, h.block⟩
theorem FarI.set {p : Nat} {a b : World} (h : FarI p (p + 1) a b) (i : Nat) (v : Value) : FarI p (p + 1) a (b.setCell ⟨p, i, none⟩ v) :=
  ⟨h.os, h.tape, h.output, by simp [World.setCell]; exact h.size, fun k hk hn => (Below.heap_setCell b ⟨p, i, none⟩ v k (by simp only; omega)).trans (h.block k hk hn)⟩
theorem l00From_any (a : Option Addr) (len cap : Nat) (w : World) :
    Calls Try.prog 10 #[.slice a len cap] w fun e w' => e = .returned (.pointer (some ⟨w.heap.size, 0, none⟩)) ∧ SrcAt w' w.heap.size a len cap 0 0 ∧ Below w.heap.size w w' ∧ w'.heap.size = w.heap.size + 1 := by
  go_enter Try.func10, Try.ntmps10
  go_wp2
  go_ret
  exact ⟨rfl, Blk.new w _ _, bw_alloc (bw_refl _) _, by simp⟩
theorem next_any (p B : Nat) (a : Option Addr) (len cap : Nat) (zs : List Int) (t : Nat) (seed : Int) (w : World) (hs : SrcAt w p a len cap t seed) (hc : CodeAt w B a len cap zs) (hB : B ≤ p) (ht : t ≤ 1000000000000) :
    Calls Try.prog 20 #[.pointer (some ⟨p, 0, none⟩)] w fun e w' => ∃ (x seed' : Int), e = .returned (.int .i64 x) ∧ 0 ≤ x ∧ x ≤ 255 ∧ SrcAt w' p a len cap (t + 1) seed' ∧ FarI p (p + 1) w w' := by
  have c0 := Blk.cell hs 0 rfl
  have c1 := Blk.cell hs 1 rfl
  have c2 := Blk.cell hs 2 rfl
  have f1 := Blk.free hs 1
  have f2 := Blk.free hs 2
  have lp := Blk.lt hs
  have HS := Lib.hid hs
  have hl := hc.1.len_le
  have w1 : IntKind.i64.wrap ((t : Int) + 1) = (t : Int) + 1 := IntWalk.i64_in _ (by omega)
  by_cases hlt : t < len
  · obtain ⟨b, off, rfl, _, _, hz, hb, hcell, hwf⟩ := hc.1.open (by omega)
    have q := hcell t (by omega)
    have hbB := hc.2.2 (by omega) _ rfl
    have hz2 := hwf (zs.getD t 0) (by have e : zs.getD t 0 = zs[t]'(by omega) := by simp [List.getD, show t < zs.length by omega]
                                      rw [e]; exact List.getElem_mem _)
    obtain ⟨z, hz3⟩ : ∃ z, zs.getD t 0 = z := ⟨_, rfl⟩
    rw [hz3] at q hz2
    have hz4 : 0 ≤ z ∧ z ≤ 255 := by
      have h0 : IntKind.u8.min = 0 := by decide
      have h1 : IntKind.u8.max = 255 := by decide
      have h2 : IntKind.u8.min ≤ z ∧ z ≤ IntKind.u8.max := by simpa [Lit.wf] using hz2
      omega
    have hz0 := hz4.1
    have hz1 := hz4.2
    have ne1 : ¬ p = b := by simp only at hbB; omega
    have ne2 : ¬ b = p := by omega
    have r0 : (0 : Int) ≤ (t : Int) := by omega
    have r1 : (t : Int) < (len : Int) := by omega
    clear hc hcell hwf hz hz2 hz3 hz4 hbB hs
    go_enter Try.func20, Try.ntmps20
    go_wp2
    go_quiet (fail)
    go_wp2
    go_quiet (fail)
    go_wp2
    go_quiet (fail)
    go_wp2
    go_ret
    exact ⟨z, _, rfl, hz0, hz1, ((HS.out.drewN _).set 1 _).set 2 _, ((((FarI.refl p (p + 1) w).drewN _).set 1 _).set 2 _).drewN _⟩
  · have hle : len ≤ t := by omega
    have r0 : ¬ (t : Int) < (len : Int) := by omega
    have r1 : ¬ (t : Int) + 1 ≤ (len : Int) := by omega
    clear hc hs
    go_enter Try.func20, Try.ntmps20
    go_wp2
    go_quiet (fail)
    go_wp2
    go_quiet (fail)
    go_wp2
    go_ret
    refine ⟨_, _, rfl, ?_, ?_, ((HS.out.drewN _).set 1 _).set 2 _, ((((FarI.refl p (p + 1) w).drewN _).set 1 _).set 2 _).drewN _⟩
    · exact (wrap_and255 _).1
    · exact (wrap_and255 _).2
theorem pick_any (n : Int) (p B : Nat) (a : Option Addr) (len cap : Nat) (zs : List Int) (t : Nat) (seed : Int) (w : World) (hs : SrcAt w p a len cap t seed) (hc : CodeAt w B a len cap zs) (hB : B ≤ p) (ht : t ≤ 100000000000) (n0 : 1 ≤ n) (n1 : n ≤ 100000000000) :
    Calls Try.prog 12 #[.pointer (some ⟨p, 0, none⟩), .int .i64 n] w fun e w' => ∃ (x seed' : Int) (t' : Nat), e = .returned (.int .i64 x) ∧ 0 ≤ x ∧ x < n ∧ t' ≤ t + 2 ∧ SrcAt w' p a len cap t' seed' ∧ FarI p (p + 1) w w' := by
  have HS := Lib.hid hs
  have HC := Lib.hid hc
  clear hs hc
  by_cases h1 : n ≤ 1
  · go_enter Try.func12, Try.ntmps12
    go_wp2
    go_ret
    exact ⟨0, seed, t, rfl, by omega, by omega, by omega, HS.out, FarI.refl _ _ _⟩
  · have m0 : ¬ n = 0 := by omega
    go_enter Try.func12, Try.ntmps12
    go_wp2_with fail
    refine (next_any p B a len cap zs t seed _ HS.out HC.out hB (by omega)).mono ?_
    rintro e w1 ⟨x, s1, rfl, x0, x1, hs1, hf1⟩
    have HS1 := Lib.hid hs1
    have HF1 := Lib.hid hf1
    have HC1 := Lib.hid (HC.out.far hf1 hB)
    clear hs1 hf1
    by_cases h2 : n ≤ 200
    · have m1 := Int.emod_nonneg x m0
      have m2 := Int.emod_lt_of_pos x (show 0 < n by omega)
      have m3 : x.tmod n = x % n := Int.tmod_eq_emod_of_nonneg x0
      obtain ⟨r, hr⟩ : ∃ r, x % n = r := ⟨_, rfl⟩
      rw [hr] at m1 m2 m3
      have m4 : IntKind.i64.wrap r = r := IntWalk.i64_in _ (by omega)
      go_wp2
      go_ret
      exact ⟨_, _, _, rfl, by omega, by omega, by omega, HS1.out, HF1.out⟩
    · go_wp2_with fail
      refine (next_any p B a len cap zs (t + 1) s1 _ HS1.out HC1.out hB (by omega)).mono ?_
      rintro e w2 ⟨y, s2, rfl, y0, y1, hs2, hf2⟩
      have HS2 := Lib.hid hs2
      have HF2 := Lib.hid (HF1.out.trans hf2)
      clear hs2 hf2
      have m1 := Int.emod_nonneg (x * 256 + y) m0
      have m2 := Int.emod_lt_of_pos (x * 256 + y) (show 0 < n by omega)
      have m3 : (x * 256 + y).tmod n = (x * 256 + y) % n := Int.tmod_eq_emod_of_nonneg (by omega)
      obtain ⟨r, hr⟩ : ∃ r, (x * 256 + y) % n = r := ⟨_, rfl⟩
      rw [hr] at m1 m2 m3
      have m4 : IntKind.i64.wrap r = r := IntWalk.i64_in _ (by omega)
      go_wp2
      go_ret
      exact ⟨_, _, _, rfl, by omega, by omega, by omega, HS2.out, HF2.out⟩
end Go.Proofs.Ythkgaldpajnjgaa
