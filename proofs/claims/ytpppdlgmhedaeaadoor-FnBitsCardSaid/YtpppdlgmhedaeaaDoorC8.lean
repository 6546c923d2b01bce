/-
  Contracts of the parity of a number's ones: math/bits.OnesCount64, parity and ParityOf on both sides. Conditions: the number is not negative.
-/
import Derived.Test.YtpppdlgmhedaeaaDoorC1
import Derived.Test.YtpppdlgmhedaeaaDoorBits
import Derived.Test.YtpppdlgmhedaeaaDoorM2
import Derived.Laws.BitsAllLaws
namespace Go.Proofs.YtpppdlgmhedaeaaDoor
open Go.RowKit
set_option linter.unusedVariables false

theorem wrap_u64_nat (a : Nat) (h : a < 18446744073709551616) : IntKind.u64.wrap (a : Int) = (a : Int) := by
  rw [IntKind.wrap_u64]; omega
set_option maxRecDepth 100000 in
theorem OnesCount64_any (X : Nat) (w : World) (h : X < 18446744073709551616) :
    Calls Tryd.prog 87 #[.int .u64 (X : Int)] w fun e w' => e = .returned (.int .i64 ((pc X : Nat) : Int)) ∧ w = w' := by
  have h1 : X / 2 &&& 6148914691236517205 ≤ 6148914691236517205 := Nat.and_le_right
  have h2 : X &&& 6148914691236517205 ≤ 6148914691236517205 := Nat.and_le_right
  have s1 : IntKind.u64.wrap (bits .and .u64 ((X : Int) / 2) 6148914691236517205 + bits .and .u64 (X : Int) 6148914691236517205) = ((oc1 X : Nat) : Int) := by
    have e1 := u64_and_nat (X / 2) 6148914691236517205 (by omega) (by omega)
    have e2 := u64_and_nat X 6148914691236517205 h (by omega)
    rw [Int.natCast_ediv] at e1
    rw [show ((X : Int) / 2) = (X : Int) / ((2 : Nat) : Int) from rfl, show (6148914691236517205 : Int) = ((6148914691236517205 : Nat) : Int) from rfl, e1, e2, ← Int.natCast_add, wrap_u64_nat _ (by omega)]
    rfl
  have l1 : oc1 X ≤ 12297829382473034410 := by unfold oc1; omega
  obtain ⟨y1, hy1⟩ : ∃ y, y = oc1 X := ⟨_, rfl⟩
  rw [← hy1] at s1 l1
  have h3 : y1 / 4 &&& 3689348814741910323 ≤ 3689348814741910323 := Nat.and_le_right
  have h4 : y1 &&& 3689348814741910323 ≤ 3689348814741910323 := Nat.and_le_right
  have s2 : IntKind.u64.wrap (bits .and .u64 ((y1 : Int) / 4) 3689348814741910323 + bits .and .u64 (y1 : Int) 3689348814741910323) = ((oc2 y1 : Nat) : Int) := by
    have e1 := u64_and_nat (y1 / 4) 3689348814741910323 (by omega) (by omega)
    have e2 := u64_and_nat y1 3689348814741910323 (by omega) (by omega)
    rw [Int.natCast_ediv] at e1
    rw [show ((y1 : Int) / 4) = (y1 : Int) / ((4 : Nat) : Int) from rfl, show (3689348814741910323 : Int) = ((3689348814741910323 : Nat) : Int) from rfl, e1, e2, ← Int.natCast_add, wrap_u64_nat _ (by omega)]
    rfl
  have l2 : oc2 y1 ≤ 7378697629483820646 := by unfold oc2; omega
  obtain ⟨y2, hy2⟩ : ∃ y, y = oc2 y1 := ⟨_, rfl⟩
  rw [← hy2] at s2 l2
  have s3 : bits .and .u64 (IntKind.u64.wrap ((y2 : Int) / 16 + (y2 : Int))) 1085102592571150095 = ((oc3 y2 : Nat) : Int) := by
    have e1 := u64_and_nat (y2 / 16 + y2) 1085102592571150095 (by omega) (by omega)
    rw [show ((y2 : Int) / 16 + (y2 : Int)) = ((y2 / 16 + y2 : Nat) : Int) by omega, wrap_u64_nat _ (by omega), show (1085102592571150095 : Int) = ((1085102592571150095 : Nat) : Int) from rfl, e1]
    rfl
  obtain ⟨k1, k2⟩ := oc3_spec X h
  rw [← hy1, ← hy2] at k1 k2
  obtain ⟨y3, hy3⟩ : ∃ y, y = oc3 y2 := ⟨_, rfl⟩
  rw [← hy3] at s3 k1 k2
  obtain ⟨k3, k4⟩ := oc_sum y3 k1
  rw [k2] at k3
  have s4 : IntKind.u64.wrap ((y3 : Int) + (y3 : Int) / 256) = ((y3 + y3 / 256 : Nat) : Int) := by
    rw [show ((y3 : Int) + (y3 : Int) / 256) = ((y3 + y3 / 256 : Nat) : Int) by omega, wrap_u64_nat _ (by omega)]
  obtain ⟨y4, hy4⟩ : ∃ y, y = y3 + y3 / 256 := ⟨_, rfl⟩
  rw [← hy4] at s4 k3
  have s5 : IntKind.u64.wrap ((y4 : Int) + (y4 : Int) / 65536) = ((y4 + y4 / 65536 : Nat) : Int) := by
    rw [show ((y4 : Int) + (y4 : Int) / 65536) = ((y4 + y4 / 65536 : Nat) : Int) by omega, wrap_u64_nat _ (by omega)]
  obtain ⟨y5, hy5⟩ : ∃ y, y = y4 + y4 / 65536 := ⟨_, rfl⟩
  rw [← hy5] at s5 k3
  have s6 : IntKind.u64.wrap ((y5 : Int) + (y5 : Int) / 4294967296) = ((y5 + y5 / 4294967296 : Nat) : Int) := by
    rw [show ((y5 : Int) + (y5 : Int) / 4294967296) = ((y5 + y5 / 4294967296 : Nat) : Int) by omega, wrap_u64_nat _ (by omega)]
  have l5 : y5 ≤ 700000000000000000 := by omega
  clear k1 k2 k4 hy1 hy2 hy3 hy4 hy5 h1 h2 h3 h4 l1 l2
  have S1 := Lib.hid s1
  have S2 := Lib.hid s2
  have S3 := Lib.hid s3
  have S4 := Lib.hid s4
  have S5 := Lib.hid s5
  have S6 := Lib.hid s6
  have K3 := Lib.hid k3
  have K4 : Hid (y5 + y5 / 4294967296 ≤ 800000000000000000) := Lib.hid (by omega)
  clear s1 s2 s3 s4 s5 s6 k3
  go_enter Tryd.func87, Tryd.ntmps87
  go_wp2
  go_ret
  refine ⟨?_, rfl⟩
  simp only [S1.out, S2.out, S3.out, S4.out, S5.out, S6.out]
  refine ret_i64 ?_
  generalize y5 + y5 / 4294967296 = Z at *
  have hZ : Z ≤ 800000000000000000 := by have := K4.out; omega
  show bits .and .i64 (wrap64 (Z : Int)) 127 = ((pc X : Nat) : Int)
  have hw : wrap64 (Z : Int) = (Z : Int) := IntWalk.wrap64_in _ ⟨by omega, by omega⟩
  rw [hw, show (127 : Int) = ((127 : Nat) : Int) from rfl, i64_and_nat Z 127 (by omega) (by omega), nat_mask7, K3.out]
theorem parI_bd (n : Int) : 0 ≤ parI n ∧ parI n ≤ 1 := by unfold parI; omega
theorem parity_any (n : Int) (w : World) (h0 : 0 ≤ n) (h1 : n ≤ 9223372036854775807) :
    Calls Tryd.prog 65 #[.int .i64 n] w fun e w' => e = .returned (.int .i64 (parI n)) ∧ w = w' := by
  obtain ⟨X, rfl⟩ := Int.eq_ofNat_of_zero_le h0
  have hp := pc_le 63 X (by omega)
  have e := i64_and_nat (pc X) 1 (by omega) (by omega)
  rw [Nat.and_one_is_mod] at e
  have HE := Lib.hid e
  clear e
  go_enter Tryd.func65, Tryd.ntmps65
  go_wp2_with (go_at_call 87; refine (OnesCount64_any X _ (by omega)).mono ?_; rintro e w' ⟨rfl, rfl⟩)
  go_ret
  exact ⟨ret_i64 HE.out, rfl⟩
/-- ParityOf's results. -/
def poB (n m : Int) : Bool := decide (0 ≤ n) && decide (0 ≤ m)
def poV (n m : Int) : Int := if poB n m = true then parI (andI n m) else 0
theorem ParityOf_any (n m : Int) (w : World) (n1 : n ≤ 9223372036854775807) (m1 : m ≤ 9223372036854775807) :
    Calls Tryd.prog 40 #[.int .i64 n, .int .i64 m] w fun e w' => e = .returned (.tuple #[.int .i64 (poV n m), .bool (poB n m)]) ∧ w = w' := by
  by_cases hn : n < 0
  · have hb : poB n m = false := by simp [poB]; omega
    have hv : poV n m = 0 := by simp [poV, hb]
    rw [hb, hv]; clear hb hv
    go_enter Tryd.func40, Tryd.ntmps40
    go_wp2
    go_ret2
    exact ⟨rfl, rfl⟩
  · by_cases hm : m < 0
    · have hb : poB n m = false := by simp [poB]; omega
      have hv : poV n m = 0 := by simp [poV, hb]
      rw [hb, hv]; clear hb hv
      go_enter Tryd.func40, Tryd.ntmps40
      go_wp2
      go_ret2
      exact ⟨rfl, rfl⟩
    · have hb : poB n m = true := by simp [poB]; omega
      have hv : poV n m = parI (andI n m) := by simp [poV, hb]
      rw [hb, hv]; clear hb hv
      have ea := i64_and (a := n) (b := m) (by omega) (by omega) (by omega) (by omega)
      have a0 := andI_nonneg n m
      have a1 : andI n m ≤ n := by
        have : n.toNat &&& m.toNat ≤ n.toNat := Nat.and_le_left
        unfold andI; omega
      go_enter Tryd.func40, Tryd.ntmps40
      go_wp2_with (go_at_call 65; refine (parity_any (andI n m) _ (by omega) (by omega)).mono ?_; rintro e w' ⟨rfl, rfl⟩)
      go_ret2
      exact ⟨rfl, rfl⟩
end Go.Proofs.YtpppdlgmhedaeaaDoor
