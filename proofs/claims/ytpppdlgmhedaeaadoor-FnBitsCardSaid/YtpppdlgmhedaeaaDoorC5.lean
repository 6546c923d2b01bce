/-
  Contracts of the functions that write the binary digits of a number. Conditions: the number is not negative and fits, the width is from 0 to 60.
-/
import Derived.Test.YtpppdlgmhedaeaaDoorC1
import Derived.Test.YtpppdlgmhedaeaaDoorBits
import Derived.Test.YtpppdlgmhedaeaaDoorOwn
namespace Go.Proofs.YtpppdlgmhedaeaaDoor
open Go.RowKit
set_option linter.unusedVariables false

theorem tB : SliceT Tryd.prog 38 5 .u8 1 := ⟨Tryd.underlying38, Tryd.underlying5, info_parts (by kernel_rfl)⟩

/-- The digit of 2 to the power of i, as a byte's number. -/
def dg (n : Int) (i : Nat) : Int := 48 + n / 2 ^ i % 2
theorem dg_bd (n : Int) (i : Nat) : 48 ≤ dg n i ∧ dg n i ≤ 49 := by unfold dg; omega
/-- The first k of w digits, the greatest one first. -/
def digs (n : Int) (w k : Nat) : List Int := (List.range k).map fun j => dg n (w - 1 - j)
theorem digs_len (n : Int) (w k : Nat) : (digs n w k).length = k := by simp [digs]
theorem digs_succ (n : Int) (w k : Nat) : digs n w (k + 1) = digs n w k ++ [dg n (w - 1 - k)] := by simp [digs, List.range_succ]
theorem digs_step (n : Int) {w i : Nat} (h : i + 1 ≤ w) : digs n w (w - i) = digs n w (w - (i + 1)) ++ [dg n i] := by
  have e := digs_succ n w (w - (i + 1))
  rwa [show w - (i + 1) + 1 = w - i by omega, show w - 1 - (w - (i + 1)) = i by omega] at e
theorem shr_nonneg {n : Int} (h : 0 ≤ n) (i : Nat) : 0 ≤ n / 2 ^ i := Int.ediv_nonneg h (Int.le_of_lt (Int.pow_pos (by decide)))
theorem shr_le {n : Int} (h : 0 ≤ n) (i : Nat) : n / 2 ^ i ≤ n := by
  obtain ⟨m, rfl⟩ := Int.eq_ofNat_of_zero_le h
  have : m / 2 ^ i ≤ m := Nat.div_le_self _ _
  have e : ((m : Int) / 2 ^ i) = ((m / 2 ^ i : Nat) : Int) := by simp
  rw [e]; omega

theorem bitText_any (n : Int) (w : World) (h0 : 0 ≤ n) (h1 : n ≤ 1) :
    Calls Tryd.prog 86 #[.int .i64 n] w fun e w' => e = .returned (.int .u8 (48 + n)) ∧ w = w' := by
  go_enter Tryd.func86, Tryd.ntmps86
  go_wp2
  go_ret
  exact ⟨rfl, rfl⟩
set_option maxRecDepth 100000 in
theorem bitsOf_any (n : Int) (wd : Nat) (w : World) (h0 : 0 ≤ n) (h1 : n ≤ 9223372036854775807) (h2 : wd ≤ 60) :
    Calls Tryd.prog 64 #[.int .i64 n, .int .i64 wd] w fun e w' => e = .returned (.string (strOfNums (digs n wd wd))) ∧ Below w.heap.size w w' := by
  go_enter Tryd.func64, Tryd.ntmps64
  go_wp2
  go_loopw [5, 6] (fun v i wr => ∃ m : Nat, m ≤ wd ∧ i = .int .i64 ((m : Int) - 1) ∧ OwnI .u8 w.heap.size 5 w wr v (digs n wd (wd - m))) (fun _ i _ => (intOf i + 1).toNat)
  case atStart => exact ⟨wd, Nat.le_refl _, rfl, by rw [Nat.sub_self]; exact OwnI.made (bw_refl _) (Nat.le_refl _)⟩
  case round =>
    obtain ⟨m, hm, rfl, hown⟩ := hrel
    match m, hm, hown with
    | 0, hm, hown =>
      have hcv := OwnI.conv tB hown Tryd.underlying9
      go_wp2
      go_ret
      exact ⟨rfl, hown.below⟩
    | i + 1, hm, hown =>
      have ei : ((i + 1 : Nat) : Int) - 1 = (i : Int) := by omega
      rw [ei]
      clear ei
      have s0 := shr_nonneg h0 i
      have s1 := shr_le h0 i
      have eb : bits .and .i64 (n / 2 ^ i) 1 = n / 2 ^ i % 2 := by rw [i64_and s0 (by omega) (by omega) (by omega), andI_one _ s0]
      have HO := Lib.hid hown
      have HL : (digs n wd (wd - (i + 1))).length < 1000000000000 := by rw [digs_len]; omega
      clear hown
      go_wp2_with (first | (go_at_call 86; refine (bitText_any _ _ (by omega) (by omega)).mono ?_; rintro e w' ⟨rfl, rfl⟩) | (at_builtin; refine wpApp tB rfl _ _ rfl rfl HO.out rfl (by decide) HL ?_; intro v' w1 hown1))
      go_roundw
      case rel => exact ⟨i, by omega, rfl, by rw [digs_step n hm]; exact hown1⟩
      case measure => simp [intOf]; try omega
/-- BitsOf's results. -/
def boB (n wd : Int) : Bool := inR wd 0 60 && inR n 0 (sh wd - 1)
def boS (n wd : Int) : ByteArray := if boB n wd = true then strOfNums (digs n wd.toNat wd.toNat) else ⟨#[]⟩
theorem shr_zero {n wd : Int} (h : 0 ≤ n) : (n / 2 ^ wd.toNat = 0) ↔ n ≤ sh wd - 1 := by
  have hp := sh_pos wd
  show n / sh wd = 0 ↔ _
  constructor
  · intro e
    have := Int.lt_ediv_add_one_mul_self n (show 0 < sh wd by omega)
    rw [e] at this; omega
  · intro e
    exact Int.ediv_eq_zero_of_lt h (by omega)
theorem BitsOf_any (n wd : Int) (w : World) (n0 : -9223372036854775808 ≤ n) (n1 : n ≤ 9223372036854775807) :
    Calls Tryd.prog 38 #[.int .i64 n, .int .i64 wd] w fun e w' => e = .returned (.tuple #[.string (boS n wd), .bool (boB n wd)]) ∧ Below w.heap.size w w' := by
  cases h1 : inR wd 0 60 with
  | false =>
    have hb : boB n wd = false := by simp [boB, h1]
    have hs : boS n wd = ⟨#[]⟩ := by simp [boS, hb]
    rw [hb, hs]; clear hb hs
    go_enter Tryd.func38, Tryd.ntmps38
    go_wp2_with (go_at_call 52; refine (inRange_of h1 _).mono ?_; rintro e w' ⟨rfl, rfl⟩)
    go_ret2
    exact ⟨rfl, bw_refl _⟩
  | true =>
    have b1 := inR_true h1
    have s1 := sh_pos wd
    have s2 : sh wd ≤ 1152921504606846976 := sh_le b1.2
    have hs := sh_wrap (n := wd) (by omega)
    cases h2 : inR n 0 (sh wd - 1) with
    | false =>
      have hb : boB n wd = false := by simp [boB, h1, h2]
      have hs' : boS n wd = ⟨#[]⟩ := by simp [boS, hb]
      rw [hb, hs']; clear hb hs'
      go_enter Tryd.func38, Tryd.ntmps38
      go_wp2_with (go_at_call 52; (first | (with_reducible refine (inRange_of h1 _).mono ?_) | (with_reducible refine (inRange_of h2 _).mono ?_)); rintro e w' ⟨rfl, rfl⟩)
      go_ret2
      exact ⟨rfl, bw_refl _⟩
    | true =>
      have b2 := inR_true h2
      have hb : boB n wd = true := by simp [boB, h1, h2]
      have hs' : boS n wd = strOfNums (digs n wd.toNat wd.toNat) := by simp [boS, hb]
      rw [hb, hs']; clear hb hs'
      obtain ⟨m, rfl⟩ := Int.eq_ofNat_of_zero_le b1.1
      rw [Int.toNat_natCast] at hs ⊢
      go_enter Tryd.func38, Tryd.ntmps38
      go_wp2_with (first | (go_at_call 52; (first | (with_reducible refine (inRange_of h1 _).mono ?_) | (with_reducible refine (inRange_of h2 _).mono ?_)); rintro e w' ⟨rfl, rfl⟩) | (go_at_call 64; refine (bitsOf_any n m _ (by omega) (by omega) (by omega)).mono ?_; rintro e w' ⟨rfl, hb⟩))
      go_ret2
      exact ⟨rfl, hb⟩

end Go.Proofs.YtpppdlgmhedaeaaDoor
