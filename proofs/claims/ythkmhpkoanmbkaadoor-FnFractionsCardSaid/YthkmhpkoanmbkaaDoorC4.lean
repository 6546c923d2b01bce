/-
  Contracts of the laws' own draws out of bytes: b10Long, b10At. No condition beyond the arguments' bounds.
-/
import Derived.Test.YthkmhpkoanmbkaaDoorC1
namespace Go.Proofs.YthkmhpkoanmbkaaDoor
open Go.RowKit
set_option linter.unusedVariables false

/-- A number from 0 to n - 1 out of bytes. -/
def b10 (zs : List Int) (len : Nat) (i n : Int) : Int := if n ≤ 1 then 0 else if i < len then (zs.getD i.toNat 0) % n else (i * 37 + 11) % n
theorem b10_bd (zs : List Int) (len : Nat) (i n : Int) : 0 ≤ b10 zs len i n ∧ (b10 zs len i n < n ∨ b10 zs len i n = 0) := by
  unfold b10
  split
  · omega
  · split
    · exact ⟨Int.emod_nonneg _ (by omega), .inl (Int.emod_lt_of_pos _ (by omega))⟩
    · exact ⟨Int.emod_nonneg _ (by omega), .inl (Int.emod_lt_of_pos _ (by omega))⟩
theorem b10_lt (zs : List Int) (len : Nat) (i : Int) {n : Int} (h : 1 ≤ n) : 0 ≤ b10 zs len i n ∧ b10 zs len i n < n := by
  have := b10_bd zs len i n; omega

def long2 (n m : Nat) : Bool := decide (1048576 < n) || decide (1048576 < m)

theorem b10Long_any (a0 a1 : Option Addr) (l0 c0 l1 c1 : Nat) (w : World) (h0 : l0 ≤ maxLen) (h1 : l1 ≤ maxLen) :
    Calls Tryd.prog 4 #[.slice a0 l0 c0, .slice a1 l1 c1] w fun e w' => e = .returned (.bool (long2 l0 l1)) ∧ w = w' := by
  unfold maxLen at h0 h1
  by_cases h : (1048576 : Int) < (l0 : Int)
  · have e : long2 l0 l1 = true := by simp [long2]; omega
    rw [e]; clear e
    go_enter Tryd.func4, Tryd.ntmps4
    go_wp2
    go_ret
    exact ⟨rfl, rfl⟩
  · have e : long2 l0 l1 = decide ((1048576 : Int) < (l1 : Int)) := by
      have e1 : decide (1048576 < l0) = false := by simp; omega
      have e2 : decide (1048576 < l1) = decide ((1048576 : Int) < (l1 : Int)) := decide_eq_decide.2 (by omega)
      rw [long2, e1, e2, Bool.false_or]
    rw [e]; clear e
    go_enter Tryd.func4, Tryd.ntmps4
    go_wp2
    go_ret
    exact ⟨rfl, rfl⟩
theorem b10Long_of {a0 a1 : Option Addr} {l0 c0 l1 c1 : Nat} {b : Bool} {w : World} (h0 : l0 ≤ maxLen) (h1 : l1 ≤ maxLen) (h : long2 l0 l1 = b) :
    Calls Tryd.prog 4 #[.slice a0 l0 c0, .slice a1 l1 c1] w fun e w' => e = .returned (.bool b) ∧ w = w' := h ▸ b10Long_any a0 a1 l0 c0 l1 c1 w h0 h1
end Go.Proofs.YthkmhpkoanmbkaaDoor
