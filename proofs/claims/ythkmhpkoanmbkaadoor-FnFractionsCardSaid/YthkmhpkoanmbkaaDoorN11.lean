/-
  The greatest common divisor of numbers of any size; ratios from fractions. Conditions stand in each contract.
-/
import Derived.Test.YthkmhpkoanmbkaaDoorN10
import Derived.Test.YthkmhpkoanmbkaaDoorM16
namespace Go.Proofs.YthkmhpkoanmbkaaDoor
open Go.RowKit
set_option linter.unusedVariables false

theorem gcdI_pos {a b : Int} (ha : 0 ≤ a) (hb : 0 < b) : 0 < gcdI a b ∧ gcdI a b ≤ b := gcdI_le ha hb
/-- The number whose digits a slice holds. -/
def rowVal (w : World) : Value → Int
  | .slice (some p) n _ => val ((List.range n).map fun j => match w.cell? (p.add j) with
    | some (.int _ z) => z
    | _ => 0)
  | _ => 0
theorem rowVal_eq {w : World} {b : Option Addr} {cb : Nat} {ys : List Int} {q : Int} (h : NatU w b cb ys q) : rowVal w (.slice b ys.length cb) = q := by
  rcases h.spot with rfl | ⟨g, o, rfl⟩
  · have h1 := h.has.2.2.1 rfl
    have h2 := h.has.1
    have h3 : ys = [] := List.eq_nil_of_length_eq_zero (by omega)
    subst h3
    exact h.eq
  · rw [← h.eq]
    show val _ = val ys
    congr 1
    apply List.ext_getElem
    · simp
    · intro j h1 h2
      have := (h.has.2.2.2 g o rfl).2 j h2
      simp only [List.getElem_map, List.getElem_range]
      rw [Addr.add_lit, this]
      simp [List.getD, h2]
set_option maxRecDepth 100000 in
theorem shared_any (xs ys : List Int) (a b : Option Addr) (ca cb : Nat) (m n : Int) (w : World) (ha : NatU w a ca xs m) (hb : NatU w b cb ys n) (hm : m < bp 200) (hn : n < bp 200) :
    Calls Tryd.prog 55 #[.slice a xs.length ca, .slice b ys.length cb] w fun e w' => RetN (gcdI m n) w e w' := by
  have HA := Lib.hid ha
  have HB := Lib.hid hb
  have HM := Lib.hid hm
  have HN := Lib.hid hn
  clear ha hb hm hn
  go_enter Tryd.func55, Tryd.ntmps55
  go_wp2
  go_loopw [0, 1] (fun x y wr => ∃ (a : Option Addr) (ca : Nat) (xs : List Int) (b : Option Addr) (cb : Nat) (ys : List Int) (p q : Int), x = .slice a xs.length ca ∧ y = .slice b ys.length cb ∧ Hid (NatU wr a ca xs p ∧ NatU wr b cb ys q ∧ Below w.heap.size w wr ∧ gcdI p q = gcdI m n ∧ p < bp 200 ∧ q < bp 200)) (fun _ y wr => (rowVal wr y).toNat)
  case atStart => exact ⟨a, ca, xs, b, cb, ys, m, n, rfl, rfl, Lib.hid ⟨HA.out, HB.out, bw_refl _, rfl, HM.out, HN.out⟩⟩
  case round =>
    obtain ⟨a, ca, xs, b, cb, ys, p, q, rfl, rfl, H⟩ := hrel
    have p0 := H.out.1.nonneg
    have q0 := H.out.2.1.nonneg
    by_cases hq : ys.length = 0
    · have hz : q = 0 := by
        have := List.eq_nil_of_length_eq_zero hq
        subst this
        rw [← H.out.2.1.eq]; rfl
      have hg : gcdI m n = p := by rw [← H.out.2.2.2.1, hz]; exact gcdI_zero p0
      have HG := Lib.hid hg
      clear hg
      rw [hq]
      go_wp2
      go_ret
      exact ⟨a, ca, xs, rfl, by rw [HG.out]; exact H.out.1, H.out.2.2.1⟩
    · have hq0 : 0 < q := by
        have h1 := norm_low H.out.2.1.dig H.out.2.1.norm hq
        have h2 := bp_pos (ys.length - 1)
        rw [H.out.2.1.eq] at h1
        omega
      have HQ := Lib.hid hq0
      have hov := over_any xs ys a b ca cb p q wr H.out.1 H.out.2.1 ⟨by have := H.out.1.lenle H.out.2.2.2.2.1; omega, by have := H.out.2.1.lenle H.out.2.2.2.2.2; omega⟩ hq0
      have HV := Lib.hid (rowVal_eq H.out.2.1)
      obtain ⟨M, HML⟩ : ∃ M, Hid (ys.length = M) := ⟨_, Lib.hid rfl⟩
      have hM : 0 < M := by rw [← HML.out]; omega
      rw [HML.out] at hov HV
      rw [HML.out]
      clear hq
      go_wp2_with fail
      refine hov.mono ?_
      clear hov
      rintro e w1 ⟨a1, c1, z1, a2, c2, z2, rfl, hn1, hn2, hb1⟩
      have HN2 := Lib.hid hn2
      have HB1 := Lib.hid hb1
      clear hn1 hn2 hb1
      go_wp2
      go_roundw
      case rel => exact ⟨b, cb, ys, a2, c2, z2, q, p % q, by rw [HML.out], rfl, Lib.hid ⟨H.out.2.1.later HB1.out, HN2.out, bw_call H.out.2.2.1 HB1.out, by rw [gcdI_step p0 HQ.out]; exact H.out.2.2.2.1, H.out.2.2.2.2.2, Int.lt_trans (Int.emod_lt_of_pos p HQ.out) H.out.2.2.2.2.2⟩⟩
      case measure =>
        rw [rowVal_eq HN2.out, HV.out]
        have := Int.emod_lt_of_pos p HQ.out
        have := Int.emod_nonneg p (show q ≠ 0 by omega)
        omega
end Go.Proofs.YthkmhpkoanmbkaaDoor
