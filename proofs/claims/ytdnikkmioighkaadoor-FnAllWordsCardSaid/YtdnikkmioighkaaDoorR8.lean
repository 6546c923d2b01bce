/-
  Contracts of the laws' own draws out of bytes: r8Long, r8At. No condition beyond the arguments' bounds.
-/
import Derived.Test.YtdnikkmioighkaaDoorC1
namespace Go.Proofs.YtdnikkmioighkaaDoor
open Go.RowKit
set_option linter.unusedVariables false

/-- A number from 0 to n - 1 out of bytes. -/
def r8 (zs : List Int) (len : Nat) (k : Nat) (n : Int) : Int := if n ≤ 1 then 0 else if (len : Int) ≤ k then 0 else (zs.getD k 0) % n
theorem r8_bd (zs : List Int) (len k : Nat) {n : Int} (h : 1 ≤ n) : 0 ≤ r8 zs len k n ∧ r8 zs len k n < n := by
  unfold r8
  split
  · omega
  · split
    · omega
    · exact ⟨Int.emod_nonneg _ (by omega), Int.emod_lt_of_pos _ (by omega)⟩
def long8 (n m : Nat) : Bool := decide (48 < n) || decide (48 < m)

theorem r8Long_any (a0 a1 : Option Addr) (l0 c0 l1 c1 : Nat) (w : World) (h0 : l0 ≤ maxLen) (h1 : l1 ≤ maxLen) :
    Calls Tryd.prog 7 #[.slice a0 l0 c0, .slice a1 l1 c1] w fun e w' => e = .returned (.bool (long8 l0 l1)) ∧ w = w' := by
  unfold maxLen at h0 h1
  by_cases h : (48 : Int) < (l0 : Int)
  · have e : long8 l0 l1 = true := by simp [long8]; omega
    rw [e]; clear e
    go_enter Tryd.func7, Tryd.ntmps7
    go_wp2
    go_ret
    exact ⟨rfl, rfl⟩
  · have e : long8 l0 l1 = decide ((48 : Int) < (l1 : Int)) := by
      have e1 : decide (48 < l0) = false := by simp; omega
      have e2 : decide (48 < l1) = decide ((48 : Int) < (l1 : Int)) := decide_eq_decide.2 (by omega)
      rw [long8, e1, e2, Bool.false_or]
    rw [e]; clear e
    go_enter Tryd.func7, Tryd.ntmps7
    go_wp2
    go_ret
    exact ⟨rfl, rfl⟩
theorem r8Long_of {a0 a1 : Option Addr} {l0 c0 l1 c1 : Nat} {b : Bool} {w : World} (h0 : l0 ≤ maxLen) (h1 : l1 ≤ maxLen) (h : long8 l0 l1 = b) :
    Calls Tryd.prog 7 #[.slice a0 l0 c0, .slice a1 l1 c1] w fun e w' => e = .returned (.bool b) ∧ w = w' := h ▸ r8Long_any a0 a1 l0 c0 l1 c1 w h0 h1
theorem r8At_any (a : Option Addr) (l c : Nat) (zs : List Int) (k : Nat) (n : Int) (w : World) (h : IsRow .u8 w a l c zs) (i1 : k ≤ 1000000) (n1 : n ≤ 1000000000) (n0 : 0 ≤ n) :
    Calls Tryd.prog 8 #[.slice a l c, .int .i64 k, .int .i64 n] w fun e w' => e = .returned (.int .i64 (r8 zs l k n)) ∧ w = w' := by
  obtain ⟨g1, g2, g3⟩ := h.len_le
  unfold maxLen at g1
  by_cases hn : n ≤ 1
  · have e : r8 zs l k n = 0 := by simp [r8, hn]
    rw [e]; clear e
    go_enter Tryd.func8, Tryd.ntmps8
    go_wp2
    go_ret
    exact ⟨rfl, rfl⟩
  · by_cases hi : (l : Int) ≤ k
    · have e : r8 zs l k n = 0 := by unfold r8; rw [if_neg hn, if_pos hi]
      rw [e]; clear e
      go_enter Tryd.func8, Tryd.ntmps8
      go_wp2
      go_ret
      exact ⟨rfl, rfl⟩
    · obtain ⟨b, off, rfl, _, _, _, _, hc, hw⟩ := h.open (by omega)
      have e : r8 zs l k n = (zs.getD k 0) % n := by unfold r8; rw [if_neg hn, if_neg hi]
      rw [e]; clear e
      have hck := hc k (by omega)
      have hz : zs.getD k 0 = zs[k]'(by omega) := by simp [List.getD, show k < zs.length by omega]
      have hm := hw _ (List.getElem_mem (l := zs) (n := k) (by omega))
      rw [hz] at hck ⊢
      generalize zs[k]'(by omega) = z at *
      have hzb : 0 ≤ z ∧ z ≤ 255 := by simpa [Lit.wf, IntKind.min, IntKind.max, IntKind.signed, IntKind.bits] using hm
      have htm : z.tmod n = z % n := Int.tmod_eq_emod_of_nonneg hzb.1
      have hn0 : ¬ n = 0 := by omega
      have hlt : (k : Int) < l := by omega
      clear hc hw hz hm
      go_enter Tryd.func8, Tryd.ntmps8
      go_wp2
      go_ret
      exact ⟨rfl, rfl⟩
theorem r8At_of {a : Option Addr} {l c : Nat} {zs : List Int} {k : Nat} {n v : Int} {w : World} (h : IsRow .u8 w a l c zs) (i1 : k ≤ 1000000) (n1 : n ≤ 1000000000) (n0 : 0 ≤ n) (hv : Hid (r8 zs l k n = v)) :
    Calls Tryd.prog 8 #[.slice a l c, .int .i64 k, .int .i64 n] w fun e w' => e = .returned (.int .i64 v) ∧ w = w' := by
  have e := hv.out
  subst e
  exact r8At_any a l c zs k n w h i1 n1 n0
end Go.Proofs.YtdnikkmioighkaaDoor
