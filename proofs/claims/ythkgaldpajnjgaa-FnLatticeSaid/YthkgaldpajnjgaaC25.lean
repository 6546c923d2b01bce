/-
  Contracts of what the laws draw from bytes: one, B10Bits. Conditions: the code is a row of bytes that came in.
-/
import Derived.Test.YthkgaldpajnjgaaSrc
import Derived.Test.YthkgaldpajnjgaaC5
namespace Go.Proofs.Ythkgaldpajnjgaa
open Go.RowKit
set_option linter.unusedVariables false

theorem OwnI.far {k : IntKind} {base e p : Nat} {W w w' : World} {v : Value} {xs : List Int} (h : OwnI k base e W w v xs) (hf : FarI p (p + 1) w w') (hp : p + 1 ≤ base) : OwnI k base e w' w' v xs := by
  obtain ⟨g, cap, rfl⟩ := h.2.2.2
  have hlt := h.1.lt g rfl
  exact ⟨row_kept h.1 (hf.block g hlt.2 (by omega)), Below.refl _ _, Nat.le_trans h.2.2.1 hf.size, g, cap, rfl⟩
theorem SrcAt.under {p : Nat} {a : Option Addr} {len cap t : Nat} {s : Int} {w w' : World} (h : SrcAt w p a len cap t s) (hb : Below (p + 1) w w') : SrcAt w' p a len cap t s := (hb.block p (by omega)).trans h
theorem OwnI.self {k : IntKind} {base e : Nat} {W w : World} {v : Value} {xs : List Int} (h : OwnI k base e W w v xs) : OwnI k base e w w v xs := ⟨h.1, Below.refl _ _, h.2.2.1, h.2.2.2⟩
theorem one_any (n : Int) (p B : Nat) (a : Option Addr) (len cap : Nat) (zs : List Int) (t : Nat) (seed : Int) (w : World) (hs : SrcAt w p a len cap t seed) (hc : CodeAt w B a len cap zs) (hB : B ≤ p) (ht : t ≤ 100000000000) (n0 : 1 ≤ n) (n1 : n ≤ 100000000000) :
    Calls Try.prog 19 #[.pointer (some ⟨p, 0, none⟩), .int .i64 n] w fun e w' => ∃ (b : Bool) (seed' : Int) (t' : Nat), e = .returned (.bool b) ∧ t' ≤ t + 2 ∧ SrcAt w' p a len cap t' seed' ∧ FarI p (p + 1) w w' := by
  have HS := Lib.hid hs
  have HC := Lib.hid hc
  clear hs hc
  go_enter Try.func19, Try.ntmps19
  go_wp2_with fail
  refine (pick_any n p B a len cap zs t seed _ HS.out HC.out hB ht n0 n1).mono ?_
  rintro e w1 ⟨x, s1, t1, rfl, x0, x1, ht1, hs1, hf1⟩
  have HS1 := Lib.hid hs1
  have HF1 := Lib.hid hf1
  clear hs1 hf1
  go_wp2
  go_ret
  exact ⟨_, _, _, rfl, ht1, HS1.out, HF1.out⟩
end Go.Proofs.Ythkgaldpajnjgaa
