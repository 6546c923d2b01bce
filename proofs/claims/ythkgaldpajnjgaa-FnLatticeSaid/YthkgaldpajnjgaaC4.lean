/-
  Contracts of the laws' own draws out of bytes: b10Long, b10At. No condition beyond the arguments' bounds.
-/
import Derived.Test.YthkgaldpajnjgaaC1
namespace Go.Proofs.Ythkgaldpajnjgaa
open Go.RowKit
set_option linter.unusedVariables false

/-- A number from 0 to n - 1 out of bytes. -/
def b10 (zs : List Int) (len : Nat) (i n : Int) : Int := if n ≤ 1 then 0 else if i < len then (zs.getD i.toNat 0) % n else (i * 37 + 11) % n
theorem b10_bd (zs : List Int) (len : Nat) (i n : Int) : 0 ≤ b10 zs len i n ∧ (b10 zs len i n < n ∨ b10 zs len i n = 0) := by
  unfold b10
  split
  · omega
  · split
    · exact ⟨Int.emod_nonneg _ (by omega), .inl (Int.emod_lt_of_pos _ (by omega))⟩
    · exact ⟨Int.emod_nonneg _ (by omega), .inl (Int.emod_lt_of_pos _ (by omega))⟩
theorem b10_lt (zs : List Int) (len : Nat) (i : Int) {n : Int} (h : 1 ≤ n) : 0 ≤ b10 zs len i n ∧ b10 zs len i n < n := by
  have := b10_bd zs len i n; omega

def long2 (n m : Nat) : Bool := decide (1048576 < n) || decide (1048576 < m)

theorem b10Long_any (a0 a1 : Option Addr) (l0 c0 l1 c1 : Nat) (w : World) (h0 : l0 ≤ maxLen) (h1 : l1 ≤ maxLen) :
    Calls Try.prog 4 #[.slice a0 l0 c0, .slice a1 l1 c1] w fun e w' => e = .returned (.bool (long2 l0 l1)) ∧ w = w' := by
  unfold maxLen at h0 h1
  by_cases h : (1048576 : Int) < (l0 : Int)
  · have e : long2 l0 l1 = true := by simp [long2]; omega
    rw [e]; clear e
    go_enter Try.func4, Try.ntmps4
    go_wp2
    go_ret
    exact ⟨rfl, rfl⟩
  · have e : long2 l0 l1 = decide ((1048576 : Int) < (l1 : Int)) := by
      have e1 : decide (1048576 < l0) = false := by simp; omega
      have e2 : decide (1048576 < l1) = decide ((1048576 : Int) < (l1 : Int)) := decide_eq_decide.2 (by omega)
      rw [long2, e1, e2, Bool.false_or]
    rw [e]; clear e
    go_enter Try.func4, Try.ntmps4
    go_wp2
    go_ret
    exact ⟨rfl, rfl⟩
theorem b10Long_of {a0 a1 : Option Addr} {l0 c0 l1 c1 : Nat} {b : Bool} {w : World} (h0 : l0 ≤ maxLen) (h1 : l1 ≤ maxLen) (h : long2 l0 l1 = b) :
    Calls Try.prog 4 #[.slice a0 l0 c0, .slice a1 l1 c1] w fun e w' => e = .returned (.bool b) ∧ w = w' := h ▸ b10Long_any a0 a1 l0 c0 l1 c1 w h0 h1
theorem b10At_any (a : Option Addr) (l c : Nat) (zs : List Int) (i n : Int) (w : World) (h : IsRow .u8 w a l c zs) (i0 : 0 ≤ i) (i1 : i ≤ 1000000) (n1 : n ≤ 9223372036854775807) :
    Calls Try.prog 6 #[.slice a l c, .int .i64 i, .int .i64 n] w fun e w' => e = .returned (.int .i64 (b10 zs l i n)) ∧ w = w' := by
  obtain ⟨g1, g2, g3⟩ := h.len_le
  unfold maxLen at g1
  by_cases hn : n ≤ 1
  · have e : b10 zs l i n = 0 := by simp [b10, hn]
    rw [e]; clear e
    go_enter Try.func6, Try.ntmps6
    go_wp2
    go_ret
    exact ⟨rfl, rfl⟩
  · by_cases hi : i < (l : Int)
    · obtain ⟨b, off, rfl, _, _, _, _, hc, hw⟩ := h.open (by omega)
      obtain ⟨k, rfl⟩ := Int.eq_ofNat_of_zero_le i0
      have e : b10 zs l k n = (zs.getD k 0) % n := by unfold b10; rw [if_neg hn, if_pos hi]; rfl
      rw [e]; clear e
      have hck := hc k (by omega)
      have hz : zs.getD k 0 = zs[k]'(by omega) := by simp [List.getD, show k < zs.length by omega]
      have hm := hw _ (List.getElem_mem (l := zs) (n := k) (by omega))
      rw [hz] at hck ⊢
      generalize zs[k]'(by omega) = z at *
      have hzb : 0 ≤ z ∧ z ≤ 255 := by simpa [Lit.wf, IntKind.min, IntKind.max, IntKind.signed, IntKind.bits] using hm
      clear hc hw hz hm
      go_enter Try.func6, Try.ntmps6
      go_wp2
      go_ret
      exact ⟨rfl, rfl⟩
    · have e : b10 zs l i n = (i * 37 + 11) % n := by unfold b10; rw [if_neg hn, if_neg hi]
      rw [e]; clear e
      go_enter Try.func6, Try.ntmps6
      go_wp2
      go_ret
      exact ⟨rfl, rfl⟩
theorem b10At_of {a : Option Addr} {l c : Nat} {zs : List Int} {i n v : Int} {w : World} (h : IsRow .u8 w a l c zs) (i0 : 0 ≤ i) (i1 : i ≤ 1000000) (n1 : n ≤ 9223372036854775807) (hv : Hid (b10 zs l i n = v)) :
    Calls Try.prog 6 #[.slice a l c, .int .i64 i, .int .i64 n] w fun e w' => e = .returned (.int .i64 v) ∧ w = w' := by
  have e := hv.out
  subst e
  exact b10At_any a l c zs i n w h i0 i1 n1
end Go.Proofs.Ythkgaldpajnjgaa
