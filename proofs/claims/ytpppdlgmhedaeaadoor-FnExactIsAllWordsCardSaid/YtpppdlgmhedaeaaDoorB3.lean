/-
  Contracts of NumberOfBits, TakeEvery and OnesOf: the program's and the reference's give the same. No condition but the length of the texts.
-/
import Derived.Test.YtpppdlgmhedaeaaDoorB2
import Derived.Lib.Bytealg
namespace Go.Proofs.YtpppdlgmhedaeaaDoor
open Go.RowKit
set_option linter.unusedVariables false

/-- The number of the first k bits. -/
def numL (s : ByteArray) : Nat → Int
  | 0 => 0
  | k + 1 => 2 * numL s k + (byt s k - 48)
theorem numL_bd {s : ByteArray} (hb : BitsTo s s.size) : ∀ k, k ≤ s.size → 0 ≤ numL s k ∧ numL s k < 2 ^ k
  | 0, _ => by simp [numL]
  | k + 1, hk => by
    have h1 := numL_bd hb k (by omega)
    have h2 := byt_bits hb (i := k) (by omega)
    have e : (2 : Int) ^ (k + 1) = 2 * 2 ^ k := by rw [Int.pow_succ]; omega
    simp only [numL]
    omega
theorem numL_60 {s : ByteArray} (hb : BitsTo s s.size) (h60 : s.size ≤ 60) {k : Nat} (hk : k ≤ s.size) : 0 ≤ numL s k ∧ numL s k ≤ 1152921504606846975 := by
  have h1 := numL_bd hb k hk
  have h2 : (2 : Nat) ^ k ≤ 2 ^ 60 := Nat.pow_le_pow_right (by decide) (by omega)
  have h3 : ((2 : Int) ^ k) = ((2 ^ k : Nat) : Int) := by simp
  rw [h3] at h1
  omega
theorem l01Number_any (s : ByteArray) (w : World) (hb : BitsTo s s.size) (h60 : s.size ≤ 60) :
    Calls Tryd.prog 54 #[.string s] w fun e w' => e = .returned (.int .i64 (numL s s.size)) ∧ w = w' := by
  go_enter Tryd.func54, Tryd.ntmps54
  go_wp2
  go_loop [3, 4] (fun v i => ∃ k : Nat, k ≤ s.size ∧ i = .int .i64 k ∧ v = .int .i64 (numL s k)) (fun _ i => s.size - (intOf i).toNat)
  case atStart => exact ⟨0, Nat.zero_le _, rfl, rfl⟩
  case round =>
    obtain ⟨k, hk, rfl, rfl⟩ := hrel
    by_cases hlt : k < s.size
    · have x0 := byt_bits hb hlt
      have n0 := numL_60 hb h60 hk
      have n1 := numL_60 hb h60 (k := k + 1) (by omega)
      have e1 : numL s (k + 1) = 2 * numL s k + (byt s k - 48) := rfl
      rw [byt_at s hlt] at x0 e1
      have r1 : IntKind.u8.wrap ((s[k].toNat : Int) - 48) = (s[k].toNat : Int) - 48 := by rcases x0 with e | e <;> rw [e] <;> decide
      have HE := Lib.hid e1
      rw [e1] at n1
      clear e1
      go_wp2
      go_round
      case rel => exact ⟨k + 1, by omega, by go_num, by rw [HE.out]⟩
      case measure => simp [intOf]; omega
    · have hke : k = s.size := by omega
      subst hke
      go_wp2
      go_ret
      exact ⟨rfl, rfl⟩
theorem numberOf_any (s : ByteArray) (w : World) (hb : BitsTo s s.size) (h60 : s.size ≤ 60) :
    Calls Tryd.prog 55 #[.string s] w fun e w' => e = .returned (.int .i64 (numL s s.size)) ∧ w = w' := by
  go_enter Tryd.func55, Tryd.ntmps55
  go_wp2
  go_loop [3, 7] (fun v i => ∃ k : Nat, k ≤ s.size ∧ i = .int .i64 k ∧ v = .int .i64 (numL s k)) (fun _ i => s.size - (intOf i).toNat)
  case atStart => exact ⟨0, Nat.zero_le _, rfl, rfl⟩
  case round =>
    obtain ⟨k, hk, rfl, rfl⟩ := hrel
    by_cases hlt : k < s.size
    · have x0 := byt_bits hb hlt
      have n0 := numL_60 hb h60 hk
      have n1 := numL_60 hb h60 (k := k + 1) (by omega)
      have e1 : numL s (k + 1) = 2 * numL s k + (byt s k - 48) := rfl
      rw [byt_at s hlt] at x0 e1
      have r1 : IntKind.u8.wrap ((s[k].toNat : Int) - 48) = (s[k].toNat : Int) - 48 := by rcases x0 with e | e <;> rw [e] <;> decide
      have HE := Lib.hid e1
      rw [e1] at n1
      clear e1
      go_wp2
      go_round
      case rel => exact ⟨k + 1, by omega, by go_num, by rw [HE.out]⟩
      case measure => simp [intOf]; omega
    · have hke : k = s.size := by omega
      subst hke
      go_wp2
      go_ret
      exact ⟨rfl, rfl⟩
/-- NumberOfBits' results. -/
noncomputable def nbB (s : ByteArray) : Bool := bitsB s && decide (s.size ≤ 60)
noncomputable def nbN (s : ByteArray) : Int := if nbB s = true then numL s s.size else 0
theorem nbB_true {s : ByteArray} (h : nbB s = true) : bitsB s = true ∧ s.size ≤ 60 ∧ nbN s = numL s s.size := by
  have h' := h
  simp only [nbB, Bool.and_eq_true, decide_eq_true_eq] at h'
  exact ⟨h'.1, h'.2, by simp [nbN, h]⟩
theorem sNumberOfBits_any (s : ByteArray) (w : World) (hs : s.size ≤ 1048576) :
    Calls Tryd.prog 23 #[.string s] w fun e w' => e = .returned (.tuple #[.int .i64 (nbN s), .bool (nbB s)]) ∧ w = w' := by
  cases h1 : bitsB s with
  | false =>
    have e : nbB s = false := by simp [nbB, h1]
    have en : nbN s = 0 := by simp [nbN, e]
    rw [e, en]; clear e en
    go_enter Tryd.func23, Tryd.ntmps23
    go_wp2_with (go_at_call 49; refine (l01Bits_of h1 _ hs).mono ?_; rintro e w' ⟨rfl, rfl⟩)
    go_ret2
    exact ⟨rfl, rfl⟩
  | true =>
    have bs := bitsB_true h1
    by_cases hl : (60 : Int) < s.size
    · have e : nbB s = false := by simp [nbB, h1]; omega
      have en : nbN s = 0 := by simp [nbN, e]
      rw [e, en]; clear e en
      go_enter Tryd.func23, Tryd.ntmps23
      go_wp2_with (go_at_call 49; refine (l01Bits_of h1 _ hs).mono ?_; rintro e w' ⟨rfl, rfl⟩)
      go_ret2
      exact ⟨rfl, rfl⟩
    · have e : nbB s = true := by simp [nbB, h1]; omega
      have en : nbN s = numL s s.size := by simp [nbN, e]
      have hX := fun w => l01Number_any s w bs.1 (by omega)
      rw [e, en]; clear e en
      go_enter Tryd.func23, Tryd.ntmps23
      go_wp2_with (first | (go_at_call 49; refine (l01Bits_of h1 _ hs).mono ?_; rintro e w' ⟨rfl, rfl⟩) | (go_at_call 54; refine (hX _).mono ?_; rintro e w' ⟨rfl, rfl⟩))
      go_ret2
      exact ⟨rfl, rfl⟩
theorem NumberOfBits_any (s : ByteArray) (w : World) (hs : s.size ≤ 1048576) :
    Calls Tryd.prog 24 #[.string s] w fun e w' => e = .returned (.tuple #[.int .i64 (nbN s), .bool (nbB s)]) ∧ Below w.heap.size w w' := by
  cases h1 : bitsB s with
  | false =>
    have e : nbB s = false := by simp [nbB, h1]
    have en : nbN s = 0 := by simp [nbN, e]
    rw [e, en]; clear e en
    go_enter Tryd.func24, Tryd.ntmps24
    go_wp2_with (go_at_call 18; refine (IsBits_of h1 _ hs).mono ?_; rintro e w' ⟨rfl, hb1⟩)
    go_ret2
    exact ⟨rfl, hb1⟩
  | true =>
    have bs := bitsB_true h1
    by_cases hl : (60 : Int) < s.size
    · have e : nbB s = false := by simp [nbB, h1]; omega
      have en : nbN s = 0 := by simp [nbN, e]
      rw [e, en]; clear e en
      go_enter Tryd.func24, Tryd.ntmps24
      go_wp2_with (go_at_call 18; refine (IsBits_of h1 _ hs).mono ?_; rintro e w' ⟨rfl, hb1⟩)
      go_ret2
      exact ⟨rfl, hb1⟩
    · have e : nbB s = true := by simp [nbB, h1]; omega
      have en : nbN s = numL s s.size := by simp [nbN, e]
      have hX := fun w => numberOf_any s w bs.1 (by omega)
      rw [e, en]; clear e en
      go_enter Tryd.func24, Tryd.ntmps24
      go_wp2_with (first | (go_at_call 18; refine (IsBits_of h1 _ hs).mono ?_; rintro e w' ⟨rfl, hb1⟩) | (go_at_call 55; refine (hX _).mono ?_; rintro e w' ⟨rfl, rfl⟩))
      go_ret2
      exact ⟨rfl, hb1⟩

/-- Every st-th bit of a text in a circle, the first k of them. -/
def teL (s : ByteArray) (st : Int) (k : Nat) : List Int := (List.range k).map fun (i : Nat) => byt s ((i : Int) * st % s.size).toNat
theorem teL_len (s : ByteArray) (st : Int) (k : Nat) : (teL s st k).length = k := by simp [teL]
theorem teL_succ (s : ByteArray) (st : Int) (k : Nat) : teL s st (k + 1) = teL s st k ++ [byt s ((k : Int) * st % s.size).toNat] := by simp [teL, List.range_succ]
/-- TakeEvery's results. -/
noncomputable def teB (s : ByteArray) (st : Int) : Bool := bitsB s && (decide (s.size ≠ 0) && inR st 1 400)
noncomputable def teS (s : ByteArray) (st : Int) : ByteArray := if teB s st = true then strOfNums (teL s st s.size) else ⟨#[]⟩
theorem te_bd {k : Nat} {st : Int} (hk : k ≤ 400) (h1 : 1 ≤ st) (h2 : st ≤ 400) : 0 ≤ (k : Int) * st ∧ (k : Int) * st ≤ 160000 := by
  obtain ⟨m, rfl⟩ := Int.eq_ofNat_of_zero_le (show 0 ≤ st by omega)
  have : k * m ≤ 400 * 400 := Nat.mul_le_mul hk (by omega)
  have e : ((k : Int) * (m : Int)) = ((k * m : Nat) : Int) := by simp
  rw [e]; omega
theorem isEmpty_size (s : ByteArray) : s.toList.isEmpty = true ↔ s.size = 0 := by
  rw [Lib.toList_data, List.isEmpty_iff]
  constructor
  · intro h
    have := congrArg List.length h
    simpa using this
  · intro h
    exact List.length_eq_zero_iff.1 (by simpa using h)
set_option maxRecDepth 100000 in
theorem sTakeEvery_any (s : ByteArray) (st : Int) (w : World) (hs : s.size ≤ 1048576) :
    Calls Tryd.prog 19 #[.string s, .int .i64 st] w fun e w' => e = .returned (.tuple #[.string (teS s st), .bool (teB s st)]) ∧ Below w.heap.size w w' := by
  cases h1 : bitsB s with
  | false =>
    have e : teB s st = false := by simp [teB, h1]
    have en : teS s st = ⟨#[]⟩ := by simp [teS, e]
    rw [e, en]; clear e en
    go_enter Tryd.func19, Tryd.ntmps19
    go_wp2_with (go_at_call 49; refine (l01Bits_of h1 _ hs).mono ?_; rintro e w' ⟨rfl, rfl⟩)
    go_ret2
    exact ⟨rfl, bw_refl _⟩
  | true =>
    have bs := bitsB_true h1
    by_cases hl : (s.size : Int) = 0
    · have hl' : s.size = 0 := by omega
      have e : teB s st = false := by simp [teB, hl']
      have en : teS s st = ⟨#[]⟩ := by simp [teS, e]
      rw [e, en]; clear e en
      go_enter Tryd.func19, Tryd.ntmps19
      go_wp2_with (go_at_call 49; refine (l01Bits_of h1 _ hs).mono ?_; rintro e w' ⟨rfl, rfl⟩)
      go_ret2
      exact ⟨rfl, bw_refl _⟩
    · have hz : ((s.size : Int) == 0) = false := beq_eq_false_iff_ne.2 hl
      cases h2 : inR st 1 400 with
      | false =>
        have e : teB s st = false := by simp [teB, h2]
        have en : teS s st = ⟨#[]⟩ := by simp [teS, e]
        rw [e, en]; clear e en
        go_enter Tryd.func19, Tryd.ntmps19
        go_wp2_with (first | (go_at_call 49; refine (l01Bits_of h1 _ hs).mono ?_; rintro e w' ⟨rfl, rfl⟩) | (go_at_call 51; refine (l00In_of h2 _).mono ?_; rintro e w' ⟨rfl, rfl⟩))
        go_ret2
        exact ⟨rfl, bw_refl _⟩
      | true =>
        have b2 := inR_true h2
        have hl' : s.size ≠ 0 := by omega
        have e : teB s st = true := by simp [teB, h1, h2, hl']
        have en : teS s st = strOfNums (teL s st s.size) := by simp [teS, e]
        rw [e, en]; clear e en
        go_enter Tryd.func19, Tryd.ntmps19
        go_wp2_with (first | (go_at_call 49; refine (l01Bits_of h1 _ hs).mono ?_; rintro e w' ⟨rfl, rfl⟩) | (go_at_call 51; refine (l00In_of h2 _).mono ?_; rintro e w' ⟨rfl, rfl⟩))
        go_loopw [6, 7] (fun v i wr => ∃ k : Nat, k ≤ s.size ∧ i = .int .i64 k ∧ OwnI .u8 w.heap.size 5 w wr v (teL s st k)) (fun _ i _ => s.size - (intOf i).toNat)
        case atStart => exact ⟨0, Nat.zero_le _, rfl, OwnI.made (bw_refl _) (Nat.le_refl _)⟩
        case round =>
          obtain ⟨k, hk, rfl, hown⟩ := hrel
          by_cases hlt : k < s.size
          · have HS := Lib.hid (teL_succ s st k)
            have hbd := te_bd (k := k) (by omega) b2.1 b2.2
            obtain ⟨j, hj, hjs⟩ : ∃ j : Nat, (k : Int) * st % s.size = j ∧ j < s.size := by
              have h1 := Int.emod_nonneg ((k : Int) * st) (show (s.size : Int) ≠ 0 by omega)
              have h2 := Int.emod_lt_of_pos ((k : Int) * st) (show (0 : Int) < s.size by omega)
              exact ⟨((k : Int) * st % s.size).toNat, by omega, by omega⟩
            have htm : ((k : Int) * st).tmod s.size = j := by rw [Int.tmod_eq_emod_of_nonneg hbd.1, hj]
            rw [hj, Int.toNat_natCast, byt_at s hjs] at HS
            have HO := Lib.hid hown
            have HL := Lib.hid (show (teL s st k).length < 1000000000000 by rw [teL_len]; omega)
            clear hown hj
            go_wp2_with (at_builtin; refine wpApp tB2 rfl _ _ rfl rfl HO.out rfl (by decide) HL.out ?_; intro v' w1 hown1)
            go_roundw
            case rel => exact ⟨k + 1, by omega, by go_num, by rw [HS.out]; exact hown1⟩
            case measure => simp [intOf]; omega
          · have hke : k = s.size := by omega
            subst hke
            have hcv := OwnI.conv tB2 hown Tryd.underlying9
            go_wp2
            go_ret2
            exact ⟨rfl, hown.below⟩
set_option maxRecDepth 100000 in
theorem TakeEvery_any (s : ByteArray) (st : Int) (w : World) (hs : s.size ≤ 1048576) :
    Calls Tryd.prog 20 #[.string s, .int .i64 st] w fun e w' => e = .returned (.tuple #[.string (teS s st), .bool (teB s st)]) ∧ Below w.heap.size w w' := by
  cases h1 : bitsB s with
  | false =>
    have e : teB s st = false := by simp [teB, h1]
    have en : teS s st = ⟨#[]⟩ := by simp [teS, e]
    rw [e, en]; clear e en
    go_enter Tryd.func20, Tryd.ntmps20
    go_wp2_with (go_at_call 18; refine (IsBits_of h1 _ hs).mono ?_; rintro e w1 ⟨rfl, hb1⟩)
    go_ret2
    exact ⟨rfl, hb1⟩
  | true =>
    have bs := bitsB_true h1
    by_cases hl : (s.size : Int) = 0
    · have hl' : s.size = 0 := by omega
      have e : teB s st = false := by simp [teB, hl']
      have en : teS s st = ⟨#[]⟩ := by simp [teS, e]
      have hem : s.toList.isEmpty = true := (isEmpty_size s).2 hl'
      rw [e, en]; clear e en
      go_enter Tryd.func20, Tryd.ntmps20
      go_wp2_with (go_at_call 18; refine (IsBits_of h1 _ hs).mono ?_; rintro e w1 ⟨rfl, hb1⟩)
      go_ret2
      exact ⟨rfl, hb1⟩
    · have hem : s.toList.isEmpty = false := Bool.eq_false_iff.2 fun h => hl (by have := (isEmpty_size s).1 h; omega)
      cases h2 : inR st 1 400 with
      | false =>
        have e : teB s st = false := by simp [teB, h2]
        have en : teS s st = ⟨#[]⟩ := by simp [teS, e]
        rw [e, en]; clear e en
        go_enter Tryd.func20, Tryd.ntmps20
        go_wp2_with (first | (go_at_call 18; refine (IsBits_of h1 _ hs).mono ?_; rintro e w1 ⟨rfl, hb1⟩) | (go_at_call 52; refine (inRange_of h2 _).mono ?_; rintro e w' ⟨rfl, rfl⟩))
        go_ret2
        exact ⟨rfl, hb1⟩
      | true =>
        have b2 := inR_true h2
        have hl' : s.size ≠ 0 := by omega
        have e : teB s st = true := by simp [teB, h1, h2, hl']
        have en : teS s st = strOfNums (teL s st s.size) := by simp [teS, e]
        rw [e, en]; clear e en
        go_enter Tryd.func20, Tryd.ntmps20
        go_wp2_with (first | (go_at_call 18; refine (IsBits_of h1 _ hs).mono ?_; rintro e w1 ⟨rfl, hb1⟩) | (go_at_call 52; refine (inRange_of h2 _).mono ?_; rintro e w' ⟨rfl, rfl⟩))
        go_loopw [6, 23] (fun v i wr => ∃ k : Nat, k ≤ s.size ∧ i = .int .i64 k ∧ OwnI .u8 w1.heap.size 5 w1 wr v (teL s st k)) (fun _ i _ => s.size - (intOf i).toNat)
        case atStart => exact ⟨0, Nat.zero_le _, rfl, OwnI.made (bw_refl _) (Nat.le_refl _)⟩
        case round =>
          obtain ⟨k, hk, rfl, hown⟩ := hrel
          by_cases hlt : k < s.size
          · have HS := Lib.hid (teL_succ s st k)
            have hbd := te_bd (k := k) (by omega) b2.1 b2.2
            obtain ⟨j, hj, hjs⟩ : ∃ j : Nat, (k : Int) * st % s.size = j ∧ j < s.size := by
              have h1 := Int.emod_nonneg ((k : Int) * st) (show (s.size : Int) ≠ 0 by omega)
              have h2 := Int.emod_lt_of_pos ((k : Int) * st) (show (0 : Int) < s.size by omega)
              exact ⟨((k : Int) * st % s.size).toNat, by omega, by omega⟩
            have htm : ((k : Int) * st).tmod s.size = j := by rw [Int.tmod_eq_emod_of_nonneg hbd.1, hj]
            rw [hj, Int.toNat_natCast, byt_at s hjs] at HS
            have HO := Lib.hid hown
            have HL := Lib.hid (show (teL s st k).length < 1000000000000 by rw [teL_len]; omega)
            clear hown hj
            go_wp2_with (at_builtin; refine wpApp tB2 rfl _ _ rfl rfl HO.out rfl (by decide) HL.out ?_; intro v' w2 hown1)
            go_roundw
            case rel => exact ⟨k + 1, by omega, by go_num, by rw [HS.out]; exact hown1⟩
            case measure => simp [intOf]; omega
          · have hke : k = s.size := by omega
            subst hke
            have hcv := OwnI.conv tB2 hown Tryd.underlying9
            go_wp2
            go_ret2
            exact ⟨rfl, bw_call hb1 hown.below⟩
end Go.Proofs.YtpppdlgmhedaeaaDoor
