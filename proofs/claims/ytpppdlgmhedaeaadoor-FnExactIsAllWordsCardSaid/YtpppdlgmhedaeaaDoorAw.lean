/-
  IsAllWords: the program's (by a set of the words) and the reference's (by the words' numbers) give the same. No condition but the length of the text.
-/
import Derived.Test.YtpppdlgmhedaeaaDoorM14
import Derived.Test.YtpppdlgmhedaeaaDoorOwB
namespace Go.Proofs.YtpppdlgmhedaeaaDoor
open Go.RowKit Go.Maps Go.WideMaps
set_option linter.unusedVariables false

theorem tBo : SliceB Tryd.prog 69 4 := ⟨Tryd.underlying69, info_parts (by kernel_rfl)⟩
theorem lawStr : Keyed Tryd.prog 9 := string_keyed Tryd.underlying9
theorem slice_sz (s : ByteArray) (a b : Nat) : (s.extract a b).size ≤ s.size := by
  rw [ByteArray.size_extract]; omega
open Classical in
/-- Bits in a circle have each word of a width once. -/
noncomputable def awB (wd : Int) (s : ByteArray) : Bool := inR wd 1 6 && (bitsB s && (decide ((s.size : Int) = sh wd) && decide (DistW s wd.toNat s.size)))

set_option maxRecDepth 100000 in
theorem l02AllWords_any (m : Nat) (s : ByteArray) (w : World) (m0 : 1 ≤ m) (m1 : m ≤ 6) (hb : BitsTo s s.size) (hs : s.size ≤ 400) (r : Bool) (hr : r = true ↔ ((s.size : Int) = sh m ∧ DistW s m s.size)) :
    Calls Tryd.prog 56 #[.int .i64 m, .string s] w fun e w' => e = .returned (.bool r) ∧ Below w.heap.size w w' := by
  have HR := Lib.hid hr
  clear hr
  have s1 := sh_pos m
  have s2 : sh m ≤ 64 := by
    have := sh_le (n := (m : Int)) (m := 6) (by omega)
    have e : sh 6 = 64 := by decide
    omega
  have hsw := sh_wrap (n := (m : Int)) (by omega)
  rw [Int.toNat_natCast] at hsw
  have HBB := Lib.hid hb
  clear hb
  obtain ⟨S, hS⟩ : ∃ S, sh (m : Int) = S := ⟨_, rfl⟩
  have hS0 := Lib.hid hS
  rw [hS] at hsw s1 s2 HR
  clear hS
  by_cases hl : (s.size : Int) = S
  · have hn : ((s.size : Int) != S) = false := by simp [hl]
    have h0 : 0 < s.size := by omega
    have hsz : Hid (((2 ^ m : Nat) : Int) = s.size) := Lib.hid (by rw [hl, ← hS0.out, sh_nat, Int.toNat_natCast])
    subst hl
    go_enter Tryd.func56, Tryd.ntmps56
    go_wp2_with (at_make; refine wpMakeB tBo rfl _ _ rfl s.size rfl rfl hsw hsw (by omega) ?_; intro w1 hown)
    have HO := Lib.hid hown
    clear hown
    go_loopw [7] (fun i wr => ∃ (k : Nat) (bs : List Bool), k ≤ s.size ∧ i = .int .i64 k ∧ Hid (bs.length = s.size ∧ (∀ z : Nat, z < s.size → (bs.getD z false = true ↔ ∃ i, i < k ∧ nw s i m = z)) ∧ DistW s m k) ∧ Hid (OwnB w.heap.size 4 w wr (.slice (some ⟨w.heap.size, 0, none⟩) s.size s.size) bs)) (fun i _ => s.size - (intOf i).toNat)
    case atStart =>
      refine ⟨0, _, Nat.zero_le _, rfl, Lib.hid ⟨List.length_replicate, fun z hz => ?_, DistW.zero s m⟩, HO⟩
      simp [List.getD, hz]
    case round =>
      obtain ⟨k, bs, hk, rfl, hst, ho⟩ := hrel
      by_cases hlt : k < s.size
      · go_wp2
        go_loopw [8, 9] (fun v i wq => ∃ t : Nat, t ≤ m ∧ i = .int .i64 t ∧ v = .int .i64 (nw s k t) ∧ wq = wr) (fun _ i _ => m - (intOf i).toNat)
        case atStart => exact ⟨0, Nat.zero_le _, rfl, rfl, rfl⟩
        case round =>
          obtain ⟨t, ht, rfl, rfl, rfl⟩ := hrel
          have b0 := nw_bd HBB.out h0 k t
          have p0 : 2 ^ t ≤ 2 ^ 6 := Nat.pow_le_pow_right (by decide) (by omega)
          by_cases htm : t < m
          · obtain ⟨j, HJ⟩ : ∃ j, Hid ((k + t) % s.size = j) := ⟨_, Lib.hid rfl⟩
            have hjs : j < s.size := by rw [← HJ.out]; exact Nat.mod_lt _ h0
            have htmo : ((k : Int) + t).tmod s.size = j := by rw [Int.tmod_eq_emod_of_nonneg (by omega), ← HJ.out]; simp
            have x0 := byt_bits HBB.out hjs
            have HS : Hid (nw s k (t + 1) = 2 * nw s k t + (byt s j - 48)) := Lib.hid (by rw [← HJ.out]; rfl)
            rw [byt_at s hjs] at x0 HS
            have r1 : IntKind.u8.wrap ((s[j].toNat : Int) - 48) = (s[j].toNat : Int) - 48 := by rcases x0 with e | e <;> rw [e] <;> decide
            have b0' : 0 ≤ nw s k t ∧ nw s k t ≤ 64 := by omega
            clear b0 p0
            have hz0 : ((s.size : Int) == 0) = false := beq_eq_false_iff_ne.2 (by omega)
            go_wp2
            go_roundw
            case rel => exact ⟨t + 1, by omega, by go_num, by rw [HS.out], (by first | rfl | trivial)⟩
            case measure => simp [intOf]; omega
          · have hte : t = m := by omega
            subst hte
            have hzb : 0 ≤ nw s k t ∧ nw s k t < s.size := by
              have e : ((2 ^ t : Nat) : Int) = s.size := by rw [← hsz.out]
              omega
            obtain ⟨z, hz⟩ : ∃ z : Nat, nw s k t = z := ⟨(nw s k t).toNat, by omega⟩
            have HZ := Lib.hid hz
            have hzs : z < s.size := by omega
            obtain ⟨g, cap, hv, _, _, _, hc, hf⟩ := ho.out.cell
            simp only [Value.slice.injEq, Option.some.injEq, Addr.mk.injEq, and_true] at hv
            obtain ⟨rfl, -, -⟩ := hv
            have q1 := hc z (by rw [hst.out.1]; exact hzs)
            have q2 := hf z
            clear hc hf b0 p0 hzb
            cases hbz : bs.getD z false with
            | true =>
              obtain ⟨i, hi, he⟩ := (hst.out.2.1 z hzs).1 hbz
              have er : r = false := by
                cases r with
                | false => rfl
                | true => exact absurd (he.trans HZ.out.symm) ((HR.out.1 rfl).2 i k hi hlt)
              subst er
              rw [hbz] at q1
              clear hbz he
              go_wp2
              go_ret
              exact ⟨rfl, ho.out.below⟩
            | false =>
              have HST : Hid ((bs.set z true).length = s.size ∧ (∀ y : Nat, y < s.size → ((bs.set z true).getD y false = true ↔ ∃ i, i < k + 1 ∧ nw s i t = y)) ∧ DistW s t (k + 1)) := Lib.hid (by
                obtain ⟨a1, a2, a3⟩ := hst.out
                refine ⟨by rw [List.length_set]; exact a1, fun y hy => ?_, fun i j hij hj => ?_⟩
                · by_cases e : y = z
                  · subst e
                    simp only [List.getD, List.getElem?_set_self (by rw [a1]; exact hy)]
                    exact ⟨fun _ => ⟨k, by omega, HZ.out⟩, fun _ => rfl⟩
                  · have := a2 y hy
                    simp only [List.getD, List.getElem?_set_ne (Ne.symm e)] at this ⊢
                    rw [this]
                    constructor
                    · rintro ⟨i, hi, h⟩; exact ⟨i, by omega, h⟩
                    · rintro ⟨i, hi, h⟩
                      refine ⟨i, ?_, h⟩
                      by_cases ei : i = k
                      · subst ei; have := HZ.out; omega
                      · omega
                · by_cases ej : j = k
                  · subst ej
                    intro en
                    have h1 := (a2 z hzs).2 ⟨i, hij, en.trans HZ.out⟩
                    rw [hbz] at h1; cases h1
                  · exact a3 i j hij (by omega))
              have HOS : Hid (OwnB w.heap.size 4 w (wr.setCell ⟨w.heap.size, z, none⟩ (.bool true)) (.slice (some ⟨w.heap.size, 0, none⟩) s.size s.size) (bs.set z true)) := Lib.hid (by
                have h := ho.out
                rw [← hst.out.1] at h ⊢
                exact h.stored z true)
              rw [hbz] at q1
              clear hbz
              have r0 : (0 : Int) ≤ (z : Int) := by omega
              have r1 : (z : Int) < (s.size : Int) := by omega
              go_wp2
              go_roundw
              case rel => exact ⟨k + 1, _, by omega, by go_num, HST, HOS⟩
              case measure => simp [intOf]; omega
      · have hke : k = s.size := by omega
        subst hke
        have er : r = true := HR.out.2 ⟨(by first | rfl | trivial), hst.out.2.2⟩
        subst er
        go_wp2
        go_ret
        exact ⟨rfl, ho.out.below⟩
  · have hn : ((s.size : Int) != S) = true := bne_iff_ne.2 hl
    have er : r = false := by
      cases r with
      | false => rfl
      | true => exact absurd (HR.out.1 rfl).1 hl
    subst er
    go_enter Tryd.func56, Tryd.ntmps56
    go_wp2
    go_ret
    exact ⟨rfl, bw_refl _⟩
theorem sIsAllWords_any (wd : Int) (s : ByteArray) (w : World) (hs : s.size ≤ 1048576) :
    Calls Tryd.prog 25 #[.int .i64 wd, .string s] w fun e w' => e = .returned (.bool (awB wd s)) ∧ Below w.heap.size w w' := by
  cases h1 : inR wd 1 6 with
  | false =>
    have e : awB wd s = false := by simp [awB, h1]
    rw [e]; clear e
    go_enter Tryd.func25, Tryd.ntmps25
    go_wp2_with (go_at_call 51; refine (l00In_of h1 _).mono ?_; rintro e w' ⟨rfl, rfl⟩)
    go_ret
    exact ⟨rfl, bw_refl _⟩
  | true =>
    cases h2 : bitsB s with
    | false =>
      have e : awB wd s = false := by simp [awB, h2]
      rw [e]; clear e
      go_enter Tryd.func25, Tryd.ntmps25
      go_wp2_with (first | (go_at_call 51; refine (l00In_of h1 _).mono ?_; rintro e w' ⟨rfl, rfl⟩) | (go_at_call 49; refine (l01Bits_of h2 _ hs).mono ?_; rintro e w' ⟨rfl, rfl⟩))
      go_ret
      exact ⟨rfl, bw_refl _⟩
    | true =>
      have b1 := inR_true h1
      have b2 := bitsB_true h2
      obtain ⟨m, rfl⟩ := Int.eq_ofNat_of_zero_le (show 0 ≤ wd by omega)
      obtain ⟨r, hr⟩ : ∃ r, awB (m : Int) s = r := ⟨_, rfl⟩
      have hiff : r = true ↔ ((s.size : Int) = sh m ∧ DistW s m s.size) := by
        rw [← hr]; simp [awB, h1, h2]
      rw [hr]
      have hX := fun w => l02AllWords_any m s w (by omega) (by omega) b2.1 b2.2 r hiff
      clear hiff hr
      go_enter Tryd.func25, Tryd.ntmps25
      go_wp2_with (first | (go_at_call 51; refine (l00In_of h1 _).mono ?_; rintro e w' ⟨rfl, rfl⟩) | (go_at_call 49; refine (l01Bits_of h2 _ hs).mono ?_; rintro e w' ⟨rfl, rfl⟩) | (go_at_call 56; refine (hX _).mono ?_; rintro e w1 ⟨rfl, hb1⟩))
      go_ret
      exact ⟨ret_bool (by simp), hb1⟩
set_option maxRecDepth 100000 in
theorem IsAllWords_any (wd : Int) (s : ByteArray) (w : World) (hs : s.size ≤ 1048576) :
    Calls Tryd.prog 26 #[.int .i64 wd, .string s] w fun e w' => e = .returned (.bool (awB wd s)) ∧ Below w.heap.size w w' := by
  cases h1 : inR wd 1 6 with
  | false =>
    have e : awB wd s = false := by simp [awB, h1]
    rw [e]; clear e
    go_enter Tryd.func26, Tryd.ntmps26
    go_wp2_with (go_at_call 52; refine (inRange_of h1 _).mono ?_; rintro e w' ⟨rfl, rfl⟩)
    go_ret
    exact ⟨rfl, bw_refl _⟩
  | true =>
    cases h2 : bitsB s with
    | false =>
      have e : awB wd s = false := by simp [awB, h2]
      rw [e]; clear e
      go_enter Tryd.func26, Tryd.ntmps26
      go_wp2_with (first | (go_at_call 52; refine (inRange_of h1 _).mono ?_; rintro e w' ⟨rfl, rfl⟩) | (go_at_call 18; refine (IsBits_of h2 _ hs).mono ?_; rintro e w1 ⟨rfl, hb1⟩))
      go_ret
      exact ⟨rfl, hb1⟩
    | true =>
      have b1 := inR_true h1
      have b2 := bitsB_true h2
      obtain ⟨m, rfl⟩ := Int.eq_ofNat_of_zero_le (show 0 ≤ wd by omega)
      obtain ⟨r, hr⟩ : ∃ r, awB (m : Int) s = r := ⟨_, rfl⟩
      have hiff : r = true ↔ ((s.size : Int) = sh m ∧ DistW s m s.size) := by
        rw [← hr]; simp [awB, h1, h2]
      rw [hr]
      have HR := Lib.hid hiff
      clear hiff hr
      have s1 := sh_pos m
      have s2 : sh m ≤ 64 := by
        have := sh_le (n := (m : Int)) (m := 6) (by omega)
        have e : sh 6 = 64 := by decide
        omega
      have hsw := sh_wrap (n := (m : Int)) (by omega)
      rw [Int.toNat_natCast] at hsw
      have hm2 : (m : Int) ≤ sh m := by
        have : m < 2 ^ m := Nat.lt_two_pow_self
        rw [sh_nat, Int.toNat_natCast]; omega
      obtain ⟨S, hS⟩ : ∃ S, sh (m : Int) = S := ⟨_, rfl⟩
      rw [hS] at hsw s1 s2 HR hm2
      clear hS
      by_cases hl : (s.size : Int) = S
      · have hn : ((s.size : Int) != S) = false := by simp [hl]
        subst hl
        have h0 : 0 < s.size := by omega
        have hlen := accW_len (wd := m) b2.1 h0 s.size (fun i hi => by omega)
        have HLEN := Lib.hid hlen
        clear hlen
        obtain ⟨C, hC⟩ : ∃ C, s ++ s = C := ⟨_, rfl⟩
        have hCs : C.size = s.size + s.size := by rw [← hC]; exact ByteArray.size_append
        have hsum : ¬ 9223372036854775807 < s.size + s.size := by omega
        have hmm := @run_makeMap Tryd.prog
        go_enter Tryd.func26, Tryd.ntmps26
        go_wp2_with (first | (go_at_call 52; refine (inRange_of h1 _).mono ?_; rintro e w' ⟨rfl, rfl⟩) | (go_at_call 18; refine (IsBits_of h2 _ hs).mono ?_; rintro e w1 ⟨rfl, hb1⟩))
        rw [hsw]
        go_loopw [29] (fun i wr => ∃ k : Nat, k ≤ s.size ∧ i = .int .i64 k ∧ Hid (wr.ownsMap Tryd.prog 9 (plainElem Tryd.prog 4) w1.heap.size k (setW s m k)) ∧ Hid (Below w1.heap.size w1 wr)) (fun i _ => s.size - (intOf i).toNat)
        case atStart => exact ⟨0, Nat.zero_le _, rfl, Lib.hid (by rw [setW_zero]; exact World.ownsMap_made _ _ _ _), Lib.hid ((Below.refl _ _).alloc (Nat.le_refl _) _)⟩
        case round =>
          obtain ⟨k, hk, rfl, hown, hnx⟩ := hrel
          by_cases hlt : k < s.size
          · have hkey : keyOf Tryd.prog 9 (.string (C.extract k (k + m))) = some (keyW s m k) := by
              rw [← hC]
              exact keyOf_string_mk Tryd.underlying9 (by
                have := slice_sz (s ++ s) k (k + m)
                unfold maxLen; rw [hC] at this ⊢; omega)
            have r1 : (k : Int) + m ≤ (C.size : Int) := by omega
            go_wp2_with (first
              | (at_mapUpdate; refine wpList_mapUpdate_own _ rfl _ _ _ 52 rfl 9 4 lawStr Tryd.underlying52 (plainElem (H := Unit) Tryd.prog 4) w1.heap.size k _ rfl hown.out (by unfold maxLen; omega) _ _ _ rfl rfl hkey _ [] (plainElem_bool Tryd.underlying4 true) ?_; intro w2 hown1 hgrow1)
              | go_in)
            go_roundw
            case rel => exact ⟨k + 1, by omega, by go_num, Lib.hid ((setW_succ s m k).symm ▸ hown1), Lib.hid (hnx.out.grown hgrow1 hnx.out.size (fun j hj => by cases hj; exact Nat.le_refl _))⟩
            case measure => simp [intOf]; omega
          · have hke : k = s.size := by omega
            subst hke
            have hsize : Maps.size (setW s m s.size) = ((accW s m s.size).length : Nat) := setW_size
            obtain ⟨z, hz⟩ : ∃ z : Int, Maps.size (setW s m s.size) = z := ⟨_, rfl⟩
            have er : r = decide (z = (s.size : Int)) := by
              rw [← hz, hsize, Bool.eq_iff_iff, decide_eq_true_eq, HR.out]
              constructor
              · intro h
                have := HLEN.out.2.2 h.2; omega
              · intro h
                exact ⟨by first | rfl | trivial, HLEN.out.2.1 (by omega)⟩
            have HZ := Lib.hid hz
            clear hz hsize
            subst er
            by_cases hzs : z = (s.size : Int)
            · have hq : (z == (s.size : Int)) = true := by simp [hzs]
              go_wp2_with (first
                | (at_len; refine wpList_len_own _ rfl _ 52 rfl 9 4 Tryd.underlying52 _ w1.heap.size s.size _ rfl hown.out ?_; rw [HZ.out])
                | go_in)
              go_ret
              exact ⟨ret_bool (by simp [hzs]), bw_call hb1 hnx.out⟩
            · have hq : (z == (s.size : Int)) = false := beq_eq_false_iff_ne.2 hzs
              go_wp2_with (first
                | (at_len; refine wpList_len_own _ rfl _ 52 rfl 9 4 Tryd.underlying52 _ w1.heap.size s.size _ rfl hown.out ?_; rw [HZ.out])
                | go_in)
              go_ret
              exact ⟨ret_bool (by simp [hzs]), bw_call hb1 hnx.out⟩
      · have hn : ((s.size : Int) != S) = true := bne_iff_ne.2 hl
        have er : r = false := by
          cases r with
          | false => rfl
          | true => exact absurd (HR.out.1 rfl).1 hl
        subst er
        go_enter Tryd.func26, Tryd.ntmps26
        go_wp2_with (first | (go_at_call 52; refine (inRange_of h1 _).mono ?_; rintro e w' ⟨rfl, rfl⟩) | (go_at_call 18; refine (IsBits_of h2 _ hs).mono ?_; rintro e w1 ⟨rfl, hb1⟩))
        go_ret
        exact ⟨rfl, hb1⟩
theorem FnExactIsAllWords_walk (wd : Int) (s : ByteArray) (w : World) (w_wd : (Lit.int .i64 wd).wf = true) (w_s : s.size ≤ maxLen) :
    Calls Tryd.prog 8 #[.int .i64 wd, .string s] w fun e w' => e = .returned (.bool true) ∧ Below w.heap.size w w' := by
  clear w_s w_wd
  by_cases hs : (1048576 : Int) < s.size
  · go_enter Tryd.func8, Tryd.ntmps8
    go_wp2
    go_ret
    exact ⟨rfl, bw_refl _⟩
  · go_enter Tryd.func8, Tryd.ntmps8
    go_wp2_with fail
    refine (sIsAllWords_any wd s _ (by omega)).mono ?_
    rintro e w1 ⟨rfl, hb1⟩
    go_wp2_with fail
    refine (IsAllWords_any wd s _ (by omega)).mono ?_
    rintro e w2 ⟨rfl, hb2⟩
    go_wp2
    go_ret
    exact ⟨rfl, bw_call hb1 hb2⟩
end Go.Proofs.YtpppdlgmhedaeaaDoor
