/-
  Contracts of OnesOf and AgreementsOf: the program's and the reference's give the same. No condition but the length of the texts.
-/
import Derived.Test.YtpppdlgmhedaeaaDoorB3
import Derived.Test.YtpppdlgmhedaeaaDoorLst
namespace Go.Proofs.YtpppdlgmhedaeaaDoor
open Go.RowKit
set_option linter.unusedVariables false

/-- How many of the first k bits are 1. -/
def oneL (s : ByteArray) : Nat → Int
  | 0 => 0
  | k + 1 => oneL s k + (byt s k - 48)
theorem oneL_bd {s : ByteArray} (hb : BitsTo s s.size) : ∀ k, k ≤ s.size → 0 ≤ oneL s k ∧ oneL s k ≤ k
  | 0, _ => by simp [oneL]
  | k + 1, hk => by
    have h1 := oneL_bd hb k (by omega)
    have h2 := byt_bits hb (i := k) (by omega)
    simp only [oneL]
    omega
theorem oneL_count {s : ByteArray} (hb : BitsTo s s.size) : ∀ k, k ≤ s.size → oneL s k = ((s.data.toList.take k).count 49 : Nat)
  | 0, _ => by simp [oneL]
  | k + 1, hk => by
    have h1 := oneL_count hb k (by omega)
    have h2 := hb k (by omega) (by omega)
    have h3 := at_data s k (by omega)
    have e : s.data.toList.take (k + 1) = s.data.toList.take k ++ [s[k]] := by rw [List.take_add_one, h3]; rfl
    rw [e, List.count_append]
    simp only [oneL]
    rw [h1, byt_at s (by omega)]
    rcases h2 with h | h
    · have : s[k] = 48 := UInt8.toNat_inj.1 h
      rw [this]; simp
    · have : s[k] = 49 := UInt8.toNat_inj.1 h
      rw [this]; simp
theorem oneL_all {s : ByteArray} (hb : BitsTo s s.size) : oneL s s.size = (Lib.countByte s.data.toList 49 : Nat) := by
  rw [oneL_count hb _ (Nat.le_refl _), List.take_of_length_le (by simp)]
  rfl
theorem l01Ones_any (s : ByteArray) (w : World) (hb : BitsTo s s.size) (h4 : s.size ≤ 400) :
    Calls Tryd.prog 59 #[.string s] w fun e w' => e = .returned (.int .i64 (oneL s s.size)) ∧ w = w' := by
  go_enter Tryd.func59, Tryd.ntmps59
  go_wp2
  go_loop [3, 4] (fun v i => ∃ k : Nat, k ≤ s.size ∧ i = .int .i64 k ∧ v = .int .i64 (oneL s k)) (fun _ i => s.size - (intOf i).toNat)
  case atStart => exact ⟨0, Nat.zero_le _, rfl, rfl⟩
  case round =>
    obtain ⟨k, hk, rfl, rfl⟩ := hrel
    by_cases hlt : k < s.size
    · have x0 := byt_bits hb hlt
      have n0 := oneL_bd hb k hk
      have e1 : oneL s (k + 1) = oneL s k + (byt s k - 48) := rfl
      rw [byt_at s hlt] at x0 e1
      have r1 : IntKind.u8.wrap ((s[k].toNat : Int) - 48) = (s[k].toNat : Int) - 48 := by rcases x0 with e | e <;> rw [e] <;> decide
      have HE := Lib.hid e1
      clear e1
      go_wp2
      go_round
      case rel => exact ⟨k + 1, by omega, by go_num, by rw [HE.out]⟩
      case measure => simp [intOf]; omega
    · have hke : k = s.size := by omega
      subst hke
      go_wp2
      go_ret
      exact ⟨rfl, rfl⟩
/-- OnesOf's number. -/
noncomputable def ooN (s : ByteArray) : Int := if bitsB s = true then oneL s s.size else 0
theorem sOnesOf_any (s : ByteArray) (w : World) (hs : s.size ≤ 1048576) :
    Calls Tryd.prog 34 #[.string s] w fun e w' => e = .returned (.tuple #[.int .i64 (ooN s), .bool (bitsB s)]) ∧ w = w' := by
  cases h1 : bitsB s with
  | false =>
    have en : ooN s = 0 := by simp [ooN, h1]
    rw [en]; clear en
    go_enter Tryd.func34, Tryd.ntmps34
    go_wp2_with (go_at_call 49; refine (l01Bits_of h1 _ hs).mono ?_; rintro e w' ⟨rfl, rfl⟩)
    go_ret2
    exact ⟨rfl, rfl⟩
  | true =>
    have bs := bitsB_true h1
    have en : ooN s = oneL s s.size := by simp [ooN, h1]
    have hX := fun w => l01Ones_any s w bs.1 bs.2
    rw [en]; clear en
    go_enter Tryd.func34, Tryd.ntmps34
    go_wp2_with (first | (go_at_call 49; refine (l01Bits_of h1 _ hs).mono ?_; rintro e w' ⟨rfl, rfl⟩) | (go_at_call 59; refine (hX _).mono ?_; rintro e w' ⟨rfl, rfl⟩))
    go_ret2
    exact ⟨rfl, rfl⟩
theorem OnesOf_any (s : ByteArray) (w : World) (hs : s.size ≤ 1048576) :
    Calls Tryd.prog 35 #[.string s] w fun e w' => e = .returned (.tuple #[.int .i64 (ooN s), .bool (bitsB s)]) ∧ Below w.heap.size w w' := by
  cases h1 : bitsB s with
  | false =>
    have en : ooN s = 0 := by simp [ooN, h1]
    rw [en]; clear en
    go_enter Tryd.func35, Tryd.ntmps35
    go_wp2_with (go_at_call 18; refine (IsBits_of h1 _ hs).mono ?_; rintro e w' ⟨rfl, hb1⟩)
    go_ret2
    exact ⟨rfl, hb1⟩
  | true =>
    have bs := bitsB_true h1
    have en : ooN s = oneL s s.size := by simp [ooN, h1]
    have n0 := oneL_bd bs.1 s.size (Nat.le_refl _)
    have hX : ∀ w, Calls Tryd.prog 60 #[.string s, .string ⟨#[49]⟩] w fun e w' => e = .returned (.int .i64 (oneL s s.size)) ∧ w = w' := fun w =>
      (Tryd.strings_Count_one s 49 w).mono fun e w' ⟨h, h'⟩ => ⟨by rw [h, oneL_all bs.1], h'.symm⟩
    rw [en]; clear en
    generalize oneL s s.size = z at hX n0
    go_enter Tryd.func35, Tryd.ntmps35
    go_wp2_with (first | (go_at_call 18; refine (IsBits_of h1 _ hs).mono ?_; rintro e w' ⟨rfl, hb1⟩) | (go_at_call 60; refine (hX _).mono ?_; rintro e w' ⟨rfl, rfl⟩))
    go_ret2
    exact ⟨rfl, hb1⟩

/-- Agreements less differences with the bits shifted in a circle, at the first k places. -/
def agS (s : ByteArray) (sh : Nat) : Nat → Int
  | 0 => 0
  | k + 1 => agS s sh k + (if byt s k = byt s ((k + sh) % s.size) then 1 else -1)
theorem agS_bd (s : ByteArray) (sh : Nat) : ∀ k : Nat, -(k : Int) ≤ agS s sh k ∧ agS s sh k ≤ k
  | 0 => by simp [agS]
  | k + 1 => by
    have h1 := agS_bd s sh k
    simp only [agS]
    split <;> omega
def agL (s : ByteArray) (m : Nat) : List Int := (List.range m).map fun sh => agS s sh s.size
theorem agL_len (s : ByteArray) (m : Nat) : (agL s m).length = m := by simp [agL]
theorem agL_succ (s : ByteArray) (m : Nat) : agL s (m + 1) = agL s m ++ [agS s m s.size] := by simp [agL, List.range_succ]
noncomputable def agB (s : ByteArray) : Bool := bitsB s && decide (s.size ≠ 0)
noncomputable def agR (s : ByteArray) : List Int := if agB s = true then agL s s.size else []
theorem agR_len (s : ByteArray) : (agR s).length < 1000000000000 := by
  unfold agR
  split
  · rename_i h
    have h2 : bitsB s = true := by simp [agB] at h; exact h.1
    have := bitsB_true h2
    rw [agL_len]; omega
  · simp
set_option maxRecDepth 100000 in
theorem sAgreementsOf_any (s : ByteArray) (w : World) (hs : s.size ≤ 1048576) :
    Calls Tryd.prog 32 #[.string s] w fun e w' => RetL (agR s) (agB s) w e w' := by
  cases h1 : bitsB s with
  | false =>
    have e : agB s = false := by simp [agB, h1]
    have en : agR s = [] := by simp [agR, e]
    rw [e, en]; clear e en
    go_enter Tryd.func32, Tryd.ntmps32
    go_wp2_with (go_at_call 49; refine (l01Bits_of h1 _ hs).mono ?_; rintro e w' ⟨rfl, rfl⟩)
    go_ret2
    exact ⟨none, 0, rfl, HasL.nil _ _ _ _, bw_refl _⟩
  | true =>
    have bs := bitsB_true h1
    by_cases hl : (s.size : Int) = 0
    · have hl' : s.size = 0 := by omega
      have e : agB s = false := by simp [agB, hl']
      have en : agR s = [] := by simp [agR, e]
      rw [e, en]; clear e en
      go_enter Tryd.func32, Tryd.ntmps32
      go_wp2_with (go_at_call 49; refine (l01Bits_of h1 _ hs).mono ?_; rintro e w' ⟨rfl, rfl⟩)
      go_ret2
      exact ⟨none, 0, rfl, HasL.nil _ _ _ _, bw_refl _⟩
    · have hz : ((s.size : Int) == 0) = false := beq_eq_false_iff_ne.2 hl
      have hl' : s.size ≠ 0 := by omega
      have e : agB s = true := by simp [agB, h1, hl']
      have en : agR s = agL s s.size := by simp [agR, e]
      rw [e, en]; clear e en
      go_enter Tryd.func32, Tryd.ntmps32
      go_wp2_with (go_at_call 49; refine (l01Bits_of h1 _ hs).mono ?_; rintro e w' ⟨rfl, rfl⟩)
      go_loopw [4, 5] (fun v i wr => ∃ k : Nat, k ≤ s.size ∧ i = .int .i64 k ∧ Hid (OwnI .i64 w.heap.size 2 w wr v (agL s k))) (fun _ i _ => s.size - (intOf i).toNat)
      case atStart => exact ⟨0, Nat.zero_le _, rfl, Lib.hid (OwnI.made (bw_refl _) (Nat.le_refl _))⟩
      case round =>
        obtain ⟨m, hm, rfl, hown⟩ := hrel
        by_cases hlt : m < s.size
        · go_wp2
          go_loopw [6, 7] (fun v i wq => ∃ k : Nat, k ≤ s.size ∧ i = .int .i64 k ∧ v = .int .i64 (agS s m k) ∧ ∃ n, wq = wr.drewN n) (fun _ i _ => s.size - (intOf i).toNat)
          case atStart => exact ⟨0, Nat.zero_le _, rfl, rfl, 0, rfl⟩
          case round =>
            obtain ⟨k, hk, rfl, rfl, n, rfl⟩ := hrel
            by_cases hkt : k < s.size
            · obtain ⟨j, HJ⟩ : ∃ j, Hid ((k + m) % s.size = j) := ⟨_, Lib.hid rfl⟩
              have hjs : j < s.size := by rw [← HJ.out]; exact Nat.mod_lt _ (by omega)
              have htm : ((k : Int) + m).tmod s.size = j := by rw [Int.tmod_eq_emod_of_nonneg (by omega), ← HJ.out]; simp
              have n0 := agS_bd s m k
              have HS := Lib.hid (show agS s m (k + 1) = agS s m k + (if byt s k = byt s ((k + m) % s.size) then 1 else -1) from rfl)
              rw [HJ.out, byt_at s hkt, byt_at s hjs] at HS
              by_cases heq : (s[k].toNat : Int) = s[j].toNat
              · have q1 : ((s[k].toNat : Int) == (s[j].toNat : Int)) = true := by simp [heq]
                have HE := Lib.hid heq
                clear heq
                go_wp2
                go_quiet (fail)
                go_wp2
                go_roundw
                case rel => exact ⟨k + 1, by omega, by go_num, by rw [HS.out, if_pos HE.out], _, rfl⟩
                case measure => simp [intOf]; omega
              · have q1 : ((s[k].toNat : Int) == (s[j].toNat : Int)) = false := beq_eq_false_iff_ne.2 heq
                have HE := Lib.hid heq
                clear heq
                go_wp2
                go_quiet (fail)
                go_wp2
                go_roundw
                case rel => exact ⟨k + 1, by omega, by go_num, by rw [HS.out, if_neg HE.out]; rfl, _, rfl⟩
                case measure => simp [intOf]; omega
            · have hke : k = s.size := by omega
              subst hke
              have n0 := agS_bd s m s.size
              have HS := Lib.hid (agL_succ s m)
              have HO := Lib.hid (hown.out.drewN n)
              have HL := Lib.hid (show (agL s m).length < 1000000000000 by rw [agL_len]; omega)
              clear hown
              go_wp2_with (at_builtin; refine wpApp tI rfl _ _ rfl rfl HO.out rfl (by decide) HL.out ?_; intro v' w1 hown1)
              go_roundw
              case rel => exact ⟨m + 1, by omega, by go_num, Lib.hid (by rw [HS.out]; exact hown1)⟩
              case measure => simp [intOf]; omega
        · have hke : m = s.size := by omega
          subst hke
          obtain ⟨a', c', hv, hh⟩ := hown.out.hasL
          have HW := Lib.hid hown.out.below
          have HH := Lib.hid hh
          have HV := Lib.hid hv
          clear hh hv
          go_wp2
          go_ret2
          exact ⟨a', c', by rw [← HV.out]; rfl, HH.out, HW.out⟩
set_option maxRecDepth 100000 in
theorem AgreementsOf_any (s : ByteArray) (w : World) (hs : s.size ≤ 1048576) :
    Calls Tryd.prog 33 #[.string s] w fun e w' => RetL (agR s) (agB s) w e w' := by
  cases h1 : bitsB s with
  | false =>
    have e : agB s = false := by simp [agB, h1]
    have en : agR s = [] := by simp [agR, e]
    rw [e, en]; clear e en
    go_enter Tryd.func33, Tryd.ntmps33
    go_wp2_with (go_at_call 18; refine (IsBits_of h1 _ hs).mono ?_; rintro e w1 ⟨rfl, hb1⟩)
    go_ret2
    exact ⟨none, 0, rfl, HasL.nil _ _ _ _, hb1⟩
  | true =>
    have bs := bitsB_true h1
    by_cases hl : (s.size : Int) = 0
    · have hl' : s.size = 0 := by omega
      have e : agB s = false := by simp [agB, hl']
      have en : agR s = [] := by simp [agR, e]
      have hem : s.toList.isEmpty = true := (isEmpty_size s).2 hl'
      rw [e, en]; clear e en
      go_enter Tryd.func33, Tryd.ntmps33
      go_wp2_with (go_at_call 18; refine (IsBits_of h1 _ hs).mono ?_; rintro e w1 ⟨rfl, hb1⟩)
      go_ret2
      exact ⟨none, 0, rfl, HasL.nil _ _ _ _, hb1⟩
    · have hem : s.toList.isEmpty = false := Bool.eq_false_iff.2 fun h => hl (by have := (isEmpty_size s).1 h; omega)
      have hl' : s.size ≠ 0 := by omega
      have e : agB s = true := by simp [agB, h1, hl']
      have en : agR s = agL s s.size := by simp [agR, e]
      rw [e, en]; clear e en
      go_enter Tryd.func33, Tryd.ntmps33
      go_wp2_with (go_at_call 18; refine (IsBits_of h1 _ hs).mono ?_; rintro e w1 ⟨rfl, hb1⟩)
      go_loopw [5, 20] (fun v i wr => ∃ k : Nat, k ≤ s.size ∧ i = .int .i64 k ∧ Hid (OwnI .i64 w1.heap.size 2 w1 wr v (agL s k))) (fun _ i _ => s.size - (intOf i).toNat)
      case atStart => exact ⟨0, Nat.zero_le _, rfl, Lib.hid (OwnI.made (bw_refl _) (Nat.le_refl _))⟩
      case round =>
        obtain ⟨m, hm, rfl, hown⟩ := hrel
        by_cases hlt : m < s.size
        · go_wp2
          go_loopw [7, 24] (fun v i wq => ∃ k : Nat, k ≤ s.size ∧ i = .int .i64 k ∧ v = .int .i64 (agS s m k) ∧ ∃ n, wq = wr.drewN n) (fun _ i _ => s.size - (intOf i).toNat)
          case atStart => exact ⟨0, Nat.zero_le _, rfl, rfl, 0, rfl⟩
          case round =>
            obtain ⟨k, hk, rfl, rfl, n, rfl⟩ := hrel
            by_cases hkt : k < s.size
            · obtain ⟨j, HJ⟩ : ∃ j, Hid ((k + m) % s.size = j) := ⟨_, Lib.hid rfl⟩
              have hjs : j < s.size := by rw [← HJ.out]; exact Nat.mod_lt _ (by omega)
              have htm : ((k : Int) + m).tmod s.size = j := by rw [Int.tmod_eq_emod_of_nonneg (by omega), ← HJ.out]; simp
              have n0 := agS_bd s m k
              have HS := Lib.hid (show agS s m (k + 1) = agS s m k + (if byt s k = byt s ((k + m) % s.size) then 1 else -1) from rfl)
              rw [HJ.out, byt_at s hkt, byt_at s hjs] at HS
              by_cases heq : (s[k].toNat : Int) = s[j].toNat
              · have q1 : ((s[k].toNat : Int) == (s[j].toNat : Int)) = true := by simp [heq]
                have HE := Lib.hid heq
                clear heq
                go_wp2
                go_quiet (fail)
                go_wp2
                go_roundw
                case rel => exact ⟨k + 1, by omega, by go_num, by rw [HS.out, if_pos HE.out], _, rfl⟩
                case measure => simp [intOf]; omega
              · have q1 : ((s[k].toNat : Int) == (s[j].toNat : Int)) = false := beq_eq_false_iff_ne.2 heq
                have HE := Lib.hid heq
                clear heq
                go_wp2
                go_quiet (fail)
                go_wp2
                go_roundw
                case rel => exact ⟨k + 1, by omega, by go_num, by rw [HS.out, if_neg HE.out]; rfl, _, rfl⟩
                case measure => simp [intOf]; omega
            · have hke : k = s.size := by omega
              subst hke
              have n0 := agS_bd s m s.size
              have HS := Lib.hid (agL_succ s m)
              have HO := Lib.hid (hown.out.drewN n)
              have HL := Lib.hid (show (agL s m).length < 1000000000000 by rw [agL_len]; omega)
              clear hown
              go_wp2_with (at_builtin; refine wpApp tI rfl _ _ rfl rfl HO.out rfl (by decide) HL.out ?_; intro v' w2 hown1)
              go_roundw
              case rel => exact ⟨m + 1, by omega, by go_num, Lib.hid (by rw [HS.out]; exact hown1)⟩
              case measure => simp [intOf]; omega
        · have hke : m = s.size := by omega
          subst hke
          obtain ⟨a', c', hv, hh⟩ := hown.out.hasL
          have HW := Lib.hid hown.out.below
          have HH := Lib.hid hh
          have HV := Lib.hid hv
          clear hh hv
          go_wp2
          go_ret2
          exact ⟨a', c', by rw [← HV.out]; rfl, HH.out.mono hb1.size, bw_call hb1 HW.out⟩
end Go.Proofs.YtpppdlgmhedaeaaDoor
