/-
  Contracts of the reference's l02Table, l02Move and TableCycles. Condition: the text's length.
-/
import Derived.Test.YtgcfibljepdkkaaDoorE1
namespace Go.Proofs.YtgcfibljepdkkaaDoor
open Go.RowKit
set_option linter.unusedVariables false

/-- The state after a step with a table of a width. -/
def tf (s : ByteArray) (W x : Nat) : Nat := if W = 0 then 0 else x / 2 ||| bitN s x * 2 ^ (W - 1)
theorem tf_lt {s : ByteArray} {W : Nat} (hb : BitsTo s s.size) (hs : s.size = 2 ^ W) : ∀ x, x < 2 ^ W → tf s W x < 2 ^ W := by
  intro x hx
  unfold tf
  split
  · exact Nat.pow_pos (by decide)
  · rename_i h
    have h1 := (bitN_byt hb (show x < s.size by omega)).2
    have e : 2 ^ W = 2 ^ (W - 1) * 2 := by rw [← Nat.pow_succ, show (W - 1).succ = W by omega]
    have h2 : bitN s x * 2 ^ (W - 1) ≤ 1 * 2 ^ (W - 1) := Nat.mul_le_mul_right _ h1
    have h3 : 0 < 2 ^ (W - 1) := Nat.pow_pos (by decide)
    exact Nat.or_lt_two_pow (by omega) (by omega)
/-- A table of a width. -/
noncomputable def tcB (wd : Int) (s : ByteArray) : Bool := inR wd 0 6 && (bitsB s && decide ((s.size : Int) = sh wd))
theorem tcB_true {wd : Int} {s : ByteArray} (h : tcB wd s = true) : ∃ W : Nat, wd = W ∧ W ≤ 6 ∧ BitsTo s s.size ∧ s.size = 2 ^ W := by
  unfold tcB at h
  obtain ⟨h1, h2⟩ := Bool.and_eq_true_iff.1 h
  obtain ⟨h3, h4⟩ := Bool.and_eq_true_iff.1 h2
  have h5 := inR_true h1
  obtain ⟨W, rfl⟩ := Int.eq_ofNat_of_zero_le h5.1
  refine ⟨W, rfl, by omega, (bitsB_true h3).1, ?_⟩
  have := of_decide_eq_true h4
  rw [sh_nat, Int.toNat_natCast] at this
  omega
theorem l02Move_any (s : ByteArray) (W x : Nat) (w : World) (hb : BitsTo s s.size) (hW : W ≤ 6) (hs : s.size = 2 ^ W) (hx : x < s.size) :
    Calls Tryd.prog 23 #[.int .i64 W, .string s, .int .i64 x] w fun e w' => e = .returned (.int .i64 (tf s W x : Nat)) ∧ w = w' := by
  by_cases h0 : W = 0
  · subst h0
    have e : tf s 0 x = 0 := by simp [tf]
    rw [e]; clear e
    go_enter Tryd.func23, Tryd.ntmps23
    go_wp2
    go_ret
    exact ⟨rfl, rfl⟩
  · have hbb := byte_bit hb hx
    have hb1 := (bitN_byt hb hx).2
    have hp : s.size ≤ 64 := by rw [hs]; exact Nat.le_trans (Nat.pow_le_pow_right (by decide) hW) (by decide)
    have HE : Hid (tf s W x = x / 2 ||| bitN s x * 2 ^ (W - 1)) := Lib.hid (by rw [tf, if_neg h0])
    obtain ⟨b, HBt⟩ : ∃ b, Hid (bitN s x = b) := ⟨_, Lib.hid rfl⟩
    rw [HBt.out] at hbb hb1 HE
    obtain ⟨V, rfl⟩ : ∃ V, W = V + 1 := ⟨W - 1, by omega⟩
    have hm : b * 2 ^ V ≤ 1 * 2 ^ V := Nat.mul_le_mul_right _ hb1
    have hp2 : 2 ^ V ≤ 2 ^ 6 := Nat.pow_le_pow_right (by decide) (by omega)
    have p6 : (2 : Nat) ^ 6 = 64 := by decide
    rw [p6] at hp2
    have hm3 : b * 2 ^ V < 9223372036854775808 := by omega
    have hsl := shl_nat hm3
    have hor := i64_or_nat (x / 2) (b * 2 ^ V) (by omega) hm3
    have hdv : (x : Int) / 2 = ((x / 2 : Nat) : Int) := by omega
    rw [show V + 1 - 1 = V from rfl] at HE
    obtain ⟨y, HY⟩ : ∃ y, Hid (x / 2 = y) := ⟨_, Lib.hid rfl⟩
    rw [HY.out] at hor hdv HE
    obtain ⟨z, HZ⟩ : ∃ z, Hid (b * 2 ^ V = z) := ⟨_, Lib.hid rfl⟩
    rw [HZ.out] at hsl hor HE
    have hW0 : ¬ ((V + 1 : Nat) : Int) = 0 := by omega
    have hV : ((V + 1 : Nat) : Int) - 1 = (V : Int) := by omega
    have u1 : IntKind.u64.wrap (V : Int) = V := IntWalk.u64_in _ (by omega)
    rw [HE.out]
    clear h0 hm hm3 hp2 hs p6
    go_enter Tryd.func23, Tryd.ntmps23
    go_wp2
    go_ret
    exact ⟨rfl, rfl⟩
end Go.Proofs.YtgcfibljepdkkaaDoor
