/-
  Contracts of what the laws draw: among. Conditions: the code is a row of bytes that came in.
-/
import Derived.Test.YthkgaldpajnjgaaC25
import Derived.Test.YthkgaldpajnjgaaC1
namespace Go.Proofs.Ythkgaldpajnjgaa
open Go.RowKit
set_option linter.unusedVariables false

theorem FarI.setNew {p b : Nat} {w a : World} (h : FarI p (p + 1) w a) (hb : w.heap.size ≤ b) (i : Nat) (v : Value) : FarI p (p + 1) w (a.setCell ⟨b, i, none⟩ v) :=
  ⟨h.os, h.tape, h.output, by simp [World.setCell]; exact h.size, fun k hk hn => (Below.heap_setCell a ⟨b, i, none⟩ v k (by simp only; omega)).trans (h.block k hk hn)⟩
theorem FarI.alloc {p : Nat} {w a : World} (h : FarI p (p + 1) w a) (o : Obj) : FarI p (p + 1) w (a.alloc o) :=
  ⟨h.os, h.tape, h.output, by have := h.size; simp; omega, fun k hk hn => (Below.heap_alloc a o k (by have := h.size; omega)).trans (h.block k hk hn)⟩
theorem among_any (xs : List Int) (b lc : Nat) (p B : Nat) (a : Option Addr) (len cap : Nat) (zs : List Int) (t : Nat) (seed : Int) (w : World) (hs : SrcAt w p a len cap t seed) (hc : CodeAt w B a len cap zs) (hB : B ≤ p) (ht : t ≤ 100000000000)
    (hb : b ≠ p) (hbw : b < w.heap.size) (hx0 : 0 < xs.length) (hx1 : xs.length ≤ 100) (hcell : ∀ j, j < xs.length → w.cell? ⟨b, j, none⟩ = some (.int .i64 (xs.getD j 0))) :
    Calls Try.prog 18 #[.pointer (some ⟨p, 0, none⟩), .slice (some ⟨b, 0, none⟩) xs.length lc] w fun e w' => ∃ (r : Nat) (seed' : Int) (t' : Nat), e = .returned (.int .i64 (xs.getD r 0)) ∧ r < xs.length ∧ t' ≤ t + 2 ∧ SrcAt w' p a len cap t' seed' ∧ FarI p (p + 1) w w' := by
  have HS := Lib.hid hs
  have HC := Lib.hid hc
  have HX := Lib.hid hcell
  clear hs hc hcell
  go_enter Try.func18, Try.ntmps18
  go_wp2_with fail
  refine (pick_any xs.length p B a len cap zs t seed _ HS.out HC.out hB ht (by omega) (by omega)).mono ?_
  rintro e w1 ⟨x, s1, t1, rfl, x0, x1, ht1, hs1, hf1⟩
  obtain ⟨r, rfl⟩ := Int.eq_ofNat_of_zero_le x0
  have q : w1.cell? ⟨b, r, none⟩ = some (.int .i64 (xs.getD r 0)) := (World.cell?_of_block (hf1.block b hbw (by omega))).trans (HX.out r (by omega))
  have HS1 := Lib.hid hs1
  have HF1 := Lib.hid hf1
  have r0 : (0 : Int) ≤ (r : Int) := by omega
  clear hs1 hf1
  go_wp2
  go_ret
  exact ⟨r, _, _, rfl, by omega, ht1, HS1.out, HF1.out⟩
end Go.Proofs.Ythkgaldpajnjgaa
