/-
  IsAllWords: the program's (by a set of the words) and the reference's (by the words' numbers) give the same. No condition but the length of the text.
-/
import Derived.Test.YtdnikkmioighkaaDoorM14
import Derived.Test.YtdnikkmioighkaaDoorOwB
namespace Go.Proofs.YtdnikkmioighkaaDoor
open Go.RowKit Go.Maps Go.WideMaps
set_option linter.unusedVariables false

theorem tBo : SliceB Tryd.prog 48 4 := ⟨Tryd.underlying48, info_parts (by kernel_rfl)⟩
theorem lawStr : Keyed Tryd.prog 9 := string_keyed Tryd.underlying9
theorem slice_sz (s : ByteArray) (a b : Nat) : (s.extract a b).size ≤ s.size := by
  rw [ByteArray.size_extract]; omega
open Classical in
/-- Bits in a circle have each word of a width once. -/
noncomputable def awB (wd : Int) (s : ByteArray) : Bool := inR wd 1 6 && (bitsB s && (decide ((s.size : Int) = sh wd) && decide (DistW s wd.toNat s.size)))

set_option maxRecDepth 100000 in
theorem IsAllWords_any (wd : Int) (s : ByteArray) (w : World) (hs : s.size ≤ 1048576) :
    Calls Tryd.prog 9 #[.int .i64 wd, .string s] w fun e w' => e = .returned (.bool (awB wd s)) ∧ Below w.heap.size w w' := by
  cases h1 : inR wd 1 6 with
  | false =>
    have e : awB wd s = false := by simp [awB, h1]
    rw [e]; clear e
    go_enter Tryd.func9, Tryd.ntmps9
    go_wp2_with (go_at_call 13; refine (inRange_of h1 _).mono ?_; rintro e w' ⟨rfl, rfl⟩)
    go_ret
    exact ⟨rfl, bw_refl _⟩
  | true =>
    cases h2 : bitsB s with
    | false =>
      have e : awB wd s = false := by simp [awB, h2]
      rw [e]; clear e
      go_enter Tryd.func9, Tryd.ntmps9
      go_wp2_with (first | (go_at_call 13; refine (inRange_of h1 _).mono ?_; rintro e w' ⟨rfl, rfl⟩) | (go_at_call 18; refine (IsBits_of h2 _ hs).mono ?_; rintro e w1 ⟨rfl, hb1⟩))
      go_ret
      exact ⟨rfl, hb1⟩
    | true =>
      have b1 := inR_true h1
      have b2 := bitsB_true h2
      obtain ⟨m, rfl⟩ := Int.eq_ofNat_of_zero_le (show 0 ≤ wd by omega)
      obtain ⟨r, hr⟩ : ∃ r, awB (m : Int) s = r := ⟨_, rfl⟩
      have hiff : r = true ↔ ((s.size : Int) = sh m ∧ DistW s m s.size) := by
        rw [← hr]; simp [awB, h1, h2]
      rw [hr]
      have HR := Lib.hid hiff
      clear hiff hr
      have s1 := sh_pos m
      have s2 : sh m ≤ 64 := by
        have := sh_le (n := (m : Int)) (m := 6) (by omega)
        have e : sh 6 = 64 := by decide
        omega
      have hsw := sh_wrap (n := (m : Int)) (by omega)
      rw [Int.toNat_natCast] at hsw
      have hm2 : (m : Int) ≤ sh m := by
        have : m < 2 ^ m := Nat.lt_two_pow_self
        rw [sh_nat, Int.toNat_natCast]; omega
      obtain ⟨S, hS⟩ : ∃ S, sh (m : Int) = S := ⟨_, rfl⟩
      rw [hS] at hsw s1 s2 HR hm2
      clear hS
      by_cases hl : (s.size : Int) = S
      · have hn : ((s.size : Int) != S) = false := by simp [hl]
        subst hl
        have h0 : 0 < s.size := by omega
        have hlen := accW_len (wd := m) b2.1 h0 s.size (fun i hi => by omega)
        have HLEN := Lib.hid hlen
        clear hlen
        obtain ⟨C, hC⟩ : ∃ C, s ++ s = C := ⟨_, rfl⟩
        have hCs : C.size = s.size + s.size := by rw [← hC]; exact ByteArray.size_append
        have hsum : ¬ 9223372036854775807 < s.size + s.size := by omega
        have hmm := @run_makeMap Tryd.prog
        go_enter Tryd.func9, Tryd.ntmps9
        go_wp2_with (first | (go_at_call 13; refine (inRange_of h1 _).mono ?_; rintro e w' ⟨rfl, rfl⟩) | (go_at_call 18; refine (IsBits_of h2 _ hs).mono ?_; rintro e w1 ⟨rfl, hb1⟩))
        rw [hsw]
        go_loopw [29] (fun i wr => ∃ k : Nat, k ≤ s.size ∧ i = .int .i64 k ∧ Hid (wr.ownsMap Tryd.prog 9 (plainElem Tryd.prog 4) w1.heap.size k (setW s m k)) ∧ Hid (Below w1.heap.size w1 wr)) (fun i _ => s.size - (intOf i).toNat)
        case atStart => exact ⟨0, Nat.zero_le _, rfl, Lib.hid (by rw [setW_zero]; exact World.ownsMap_made _ _ _ _), Lib.hid ((Below.refl _ _).alloc (Nat.le_refl _) _)⟩
        case round =>
          obtain ⟨k, hk, rfl, hown, hnx⟩ := hrel
          by_cases hlt : k < s.size
          · have hkey : keyOf Tryd.prog 9 (.string (C.extract k (k + m))) = some (keyW s m k) := by
              rw [← hC]
              exact keyOf_string_mk Tryd.underlying9 (by
                have := slice_sz (s ++ s) k (k + m)
                unfold maxLen; rw [hC] at this ⊢; omega)
            have r1 : (k : Int) + m ≤ (C.size : Int) := by omega
            go_wp2_with (first
              | (at_mapUpdate; refine wpList_mapUpdate_own _ rfl _ _ _ 46 rfl 9 4 lawStr Tryd.underlying46 (plainElem (H := Unit) Tryd.prog 4) w1.heap.size k _ rfl hown.out (by unfold maxLen; omega) _ _ _ rfl rfl hkey _ [] (plainElem_bool Tryd.underlying4 true) ?_; intro w2 hown1 hgrow1)
              | go_in)
            go_roundw
            case rel => exact ⟨k + 1, by omega, by go_num, Lib.hid ((setW_succ s m k).symm ▸ hown1), Lib.hid (hnx.out.grown hgrow1 hnx.out.size (fun j hj => by cases hj; exact Nat.le_refl _))⟩
            case measure => simp [intOf]; omega
          · have hke : k = s.size := by omega
            subst hke
            have hsize : Maps.size (setW s m s.size) = ((accW s m s.size).length : Nat) := setW_size
            obtain ⟨z, hz⟩ : ∃ z : Int, Maps.size (setW s m s.size) = z := ⟨_, rfl⟩
            have er : r = decide (z = (s.size : Int)) := by
              rw [← hz, hsize, Bool.eq_iff_iff, decide_eq_true_eq, HR.out]
              constructor
              · intro h
                have := HLEN.out.2.2 h.2; omega
              · intro h
                exact ⟨by first | rfl | trivial, HLEN.out.2.1 (by omega)⟩
            have HZ := Lib.hid hz
            clear hz hsize
            subst er
            by_cases hzs : z = (s.size : Int)
            · have hq : (z == (s.size : Int)) = true := by simp [hzs]
              go_wp2_with (first
                | (at_len; refine wpList_len_own _ rfl _ 46 rfl 9 4 Tryd.underlying46 _ w1.heap.size s.size _ rfl hown.out ?_; rw [HZ.out])
                | go_in)
              go_ret
              exact ⟨ret_bool (by simp [hzs]), bw_call hb1 hnx.out⟩
            · have hq : (z == (s.size : Int)) = false := beq_eq_false_iff_ne.2 hzs
              go_wp2_with (first
                | (at_len; refine wpList_len_own _ rfl _ 46 rfl 9 4 Tryd.underlying46 _ w1.heap.size s.size _ rfl hown.out ?_; rw [HZ.out])
                | go_in)
              go_ret
              exact ⟨ret_bool (by simp [hzs]), bw_call hb1 hnx.out⟩
      · have hn : ((s.size : Int) != S) = true := bne_iff_ne.2 hl
        have er : r = false := by
          cases r with
          | false => rfl
          | true => exact absurd (HR.out.1 rfl).1 hl
        subst er
        go_enter Tryd.func9, Tryd.ntmps9
        go_wp2_with (first | (go_at_call 13; refine (inRange_of h1 _).mono ?_; rintro e w' ⟨rfl, rfl⟩) | (go_at_call 18; refine (IsBits_of h2 _ hs).mono ?_; rintro e w1 ⟨rfl, hb1⟩))
        go_ret
        exact ⟨rfl, hb1⟩
end Go.Proofs.YtdnikkmioighkaaDoor
