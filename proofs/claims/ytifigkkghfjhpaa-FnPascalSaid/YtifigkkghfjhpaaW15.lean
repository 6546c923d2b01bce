/-
  Walk of the law FnPascal: it returns true for every argument. No condition.
-/
import Derived.Test.YtifigkkghfjhpaaC18
import Derived.Test.YtifigkkghfjhpaaC25
import Derived.Test.YtifigkkghfjhpaaC4
import Derived.Test.YtifigkkghfjhpaaC2
import Derived.Test.YtifigkkghfjhpaaM8
namespace Go.Proofs.Ytifigkkghfjhpaa
open Go.RowKit
set_option linter.unusedVariables false

theorem binB_yes {n k : Nat} (hn : n ≤ 60) (hk : k ≤ n) : binB n k = true := by
  simp only [binB, Bool.and_eq_true]
  exact ⟨inR_mk (by omega) (by omega), inR_mk (by omega) (by omega)⟩
theorem binV_yes {n k : Nat} (hn : n ≤ 60) (hk : k ≤ n) : binV n k = ((bin n k : Nat) : Int) := by simp [binV, binB_yes hn hk]
theorem BinomialOf_of {n k : Nat} (w : World) (hn : n ≤ 60) (hk : k ≤ n) :
    Calls Try.prog 38 #[.int .i64 n, .int .i64 k] w fun e w' => e = .returned (.tuple #[.int .i64 (bin n k : Nat), .bool true]) ∧ Below w.heap.size w w' := by
  have h := BinomialOf_any n k w
  rwa [binV_yes hn hk, binB_yes hn hk] at h
set_option maxRecDepth 10000 in
theorem cut_join {S : ByteArray} {C : Nat} (h : C ≤ S.size) : (S.extract 0 C).data.toList ++ (S.extract C S.size).data.toList = S.data.toList := by
  simp only [ByteArray.data_extract, Array.toList_extract, List.extract_eq_take_drop, List.drop_zero, Nat.sub_zero]
  have e : (List.drop C S.data.toList).take (S.size - C) = List.drop C S.data.toList := List.take_of_length_le (by rw [List.length_drop]; exact Nat.le_refl _)
  rw [e, List.take_append_drop]
theorem CheckOf_of (n : Int) (s : ByteArray) (w : World) (h0 : 0 ≤ n) (h1 : n ≤ 999982) (hs : s.size ≤ maxLen) :
    Calls Try.prog 44 #[.int .i64 n, .string s] w fun e w' => e = .returned (.tuple #[.int .i64 (ckOf n s.data.toList), .bool true]) ∧ w = w' := by
  have h := CheckOf_any n s w hs
  have hr : inR n 0 999982 = true := inR_mk h0 h1
  have e : ckN n s.data.toList = ckOf n s.data.toList := by simp [ckN, hr]
  rwa [e, hr] at h
set_option maxRecDepth 100000 in
theorem FnPascal_walk (a0 : Option Addr) (len0 cap0 : Nat) (z0 : List Int) (a1 : Option Addr) (len1 cap1 : Nat) (z1 : List Int) (w : World) (w0 : IsRow .u8 w a0 len0 cap0 z0) (w1 : IsRow .u8 w a1 len1 cap1 z1) :
    Calls Try.prog 13 #[.slice a0 len0 cap0, .slice a1 len1 cap1] w fun e w' => e = .returned (.bool true) ∧ Below w.heap.size w w' := by
  obtain ⟨g0, _, _⟩ := w0.len_le
  obtain ⟨g1, _, _⟩ := w1.len_le
  cases hl : long2 len0 len1 with
  | true =>
    have HW0 := Lib.hid w0
    have HW1 := Lib.hid w1
    clear w0 w1
    go_enter Try.func13, Try.ntmps13
    go_wp2_with (go_at_call 39; refine (b10Long_of g0 g1 hl).mono ?_; rintro e w' ⟨rfl, rfl⟩)
    go_ret
    exact ⟨rfl, bw_refl _⟩
  | false =>
    obtain ⟨d, H1⟩ : ∃ d, Hid (b10 z0 len0 0 59 = d) := ⟨_, Lib.hid rfl⟩
    have b1 : 0 ≤ d ∧ d < 59 := H1.out ▸ b10_lt z0 len0 0 (n := 59) (by omega)
    obtain ⟨D, rfl⟩ := Int.eq_ofNat_of_zero_le b1.1
    obtain ⟨c, H2⟩ : ∃ a, Hid (b10 z0 len0 1 (1 + (D : Int) + 1) = a) := ⟨_, Lib.hid rfl⟩
    have b2 : 0 ≤ c ∧ c < 1 + (D : Int) + 1 := H2.out ▸ b10_lt z0 len0 1 (n := 1 + (D : Int) + 1) (by omega)
    obtain ⟨K, rfl⟩ := Int.eq_ofNat_of_zero_le b2.1
    have HW0 := Lib.hid w0
    have HW1 := Lib.hid w1
    clear w0 w1
    go_enter Try.func13, Try.ntmps13
    go_wp2_with (first | (go_at_call 39; refine (b10Long_of g0 g1 hl).mono ?_; rintro e w' ⟨rfl, rfl⟩) | (go_at_call 41; (first | (with_reducible refine (b10At_of HW0.out (by omega) (by omega) (by omega) H1).mono ?_) | (with_reducible refine (b10At_of HW0.out (by omega) (by omega) (by omega) H2).mono ?_)); rintro e w' ⟨rfl, rfl⟩))
    obtain ⟨N, hN⟩ : ∃ N, N = D + 1 := ⟨_, rfl⟩
    have hN2 : (1 : Int) + (D : Int) = (N : Int) := by omega
    have n1 : 1 ≤ N := by omega
    have n2 : N ≤ 59 := by omega
    have kN : K ≤ N := by omega
    rw [hN2]
    clear H1 H2 b1 b2 hN hN2
    go_loopw [7, 8] (fun s i wr => ∃ t : Nat, t ≤ N + 1 ∧ i = .int .i64 t ∧ s = .int .i64 (bsum N t : Nat) ∧ Hid (Below w.heap.size w wr)) (fun _ i _ => N + 1 - (intOf i).toNat)
    case atStart => exact ⟨0, by omega, rfl, rfl, Lib.hid (bw_refl _)⟩
    case round =>
      obtain ⟨t, ht, rfl, rfl, hb⟩ := hrel
      by_cases hlt : t < N + 1
      · have p1 := bin_pos (n := N) (k := t) (by omega)
        have p2 := bin_le60 (n := N) t (by omega)
        have p3 := bsum_le60 (n := N) (t := t + 1) (by omega) (by omega)
        have HS := Lib.hid (show bsum N (t + 1) = bsum N t + bin N t from rfl)
        have p4 : bsum N t + bin N t ≤ 1152921504606846976 := p3
        go_wp2_with (go_at_call 38; refine (BinomialOf_of _ (by omega) (by omega)).mono ?_; rintro e w2 ⟨rfl, hb2⟩)
        have HB2 := Lib.hid (bw_call hb.out hb2)
        clear hb2
        go_roundw
        case rel => exact ⟨t + 1, by omega, by go_num, by rw [HS.out]; go_num, HB2⟩
        case measure => simp [intOf]; omega
      · have hte : t = N + 1 := by omega
        subst hte
        obtain ⟨Z, hZ⟩ : ∃ Z, 2 ^ N = Z := ⟨_, rfl⟩
        have SA := Lib.hid (show bsum N (N + 1) = Z by rw [bsum_all, hZ])
        have zb : Z ≤ 1152921504606846976 := by rw [← SA.out]; exact bsum_le60 (by omega) (Nat.le_refl _)
        have hz : wrap64 ((2 : Int) ^ N) = (Z : Int) := by
          have e : (2 : Int) ^ N = ((2 ^ N : Nat) : Int) := by rw [Int.natCast_pow]; rfl
          rw [e, hZ]
          exact IntWalk.wrap64_in _ ⟨by omega, by omega⟩
        rw [SA.out]
        clear hZ
        obtain ⟨M, hM⟩ : ∃ M, N = M + 1 := ⟨N - 1, by omega⟩
        have EN := Lib.hid (show (N : Int) - 1 = (M : Int) by omega)
        have mM : M ≤ 58 := by omega
        have HM := Lib.hid hM
        clear hM
        by_cases k0 : K = 0
        · have PA := Lib.hid (show bin N K = bin M K by rw [k0, bin_zero, bin_zero])
          have lM : K ≤ M := by omega
          have v1 := bin_le60 (n := M) K (by omega)
          have kz : ¬ (0 : Int) < (K : Int) := by omega
          have kl : (K : Int) < (N : Int) := by omega
          clear k0
          go_wp2_with fail
          refine (BinomialOf_of (n := N) (k := K) _ (by omega) kN).mono ?_
          rw [PA.out]
          rintro e w2 ⟨rfl, hb2⟩
          have HB2 := Lib.hid (bw_call hb.out hb2)
          clear hb2
          go_wp2_with fail
          rw [EN.out]
          refine (BinomialOf_of (n := M) (k := K) _ (by omega) lM).mono ?_
          rintro e w4 ⟨rfl, hb4⟩
          have HB4 := Lib.hid (bw_call HB2.out hb4)
          clear hb4
          go_wp2_with fail
          refine (B10Bits_any a1 len1 cap1 z1 _ (HW1.out.below HB4.out)).mono ?_
          rintro e wb ⟨xs, rfl, hxl, _, hbb⟩
          have HBB := Lib.hid (bw_call HB4.out hbb)
          have HR1 := Lib.hid (HW1.out.below HBB.out)
          obtain ⟨S, hS⟩ : ∃ S, strOfNums xs = S := ⟨_, rfl⟩
          have hsz : S.size ≤ 40 := by rw [← hS, strOfNums_size]; exact hxl
          rw [hS]
          obtain ⟨cu, H3⟩ : ∃ a, Hid (b10 z1 len1 3 ((S.size : Int) + 1) = a) := ⟨_, Lib.hid rfl⟩
          have b3 : 0 ≤ cu ∧ cu < (S.size : Int) + 1 := H3.out ▸ b10_lt z1 len1 3 (n := (S.size : Int) + 1) (by omega)
          obtain ⟨C, rfl⟩ := Int.eq_ofNat_of_zero_le b3.1
          clear hbb hS hxl
          go_wp2_with fail
          refine (b10At_of HR1.out (by omega) (by omega) (by omega) H3).mono ?_
          rintro e w' ⟨rfl, rfl⟩
          have hS6 : S.size ≤ maxLen := by unfold maxLen; omega
          have cf := ckOf_bd (n := (N : Int)) (by omega) (by omega) (S.extract 0 C).data.toList
          obtain ⟨X, hX⟩ : ∃ X, Hid (ckOf (N : Int) S.data.toList = X) := ⟨_, Lib.hid rfl⟩
          obtain ⟨F, hF⟩ : ∃ X, Hid (ckOf (N : Int) (S.extract 0 C).data.toList = X) := ⟨_, Lib.hid rfl⟩
          have hG := Lib.hid (show ckOf F (S.extract C S.size).data.toList = X by rw [← hF.out, ← ckOf_append, cut_join (by omega), hX.out])
          rw [hF.out] at cf
          go_wp2_with fail
          refine (CheckOf_of (N : Int) S _ (by omega) (by omega) hS6).mono ?_
          rw [hX.out]
          rintro e w' ⟨rfl, rfl⟩
          go_wp2_with fail
          refine (CheckOf_of (N : Int) (S.extract 0 C) _ (by omega) (by omega) (by rw [ByteArray.size_extract]; unfold maxLen; omega)).mono ?_
          rw [hF.out]
          rintro e w' ⟨rfl, rfl⟩
          go_wp2_with fail
          refine (CheckOf_of F (S.extract C S.size) _ cf.1 cf.2 (by rw [ByteArray.size_extract]; unfold maxLen; omega)).mono ?_
          rw [hG.out]
          rintro e w' ⟨rfl, rfl⟩
          go_wp2
          go_ret
          exact ⟨rfl, HBB.out⟩
        · obtain ⟨L, hL⟩ : ∃ L, K = L + 1 := ⟨K - 1, by omega⟩
          have EK := Lib.hid (show (K : Int) - 1 = (L : Int) by omega)
          by_cases kn : K = N
          · have PA := Lib.hid (show bin N K = bin M L by rw [kn, bin_self, show L = M by have := HM.out; omega, bin_self])
            have lL : L ≤ M := by have := HM.out; omega
            have v1 := bin_le60 (n := M) L (by omega)
            have kz : (0 : Int) < (K : Int) := by omega
            have kl : ¬ (K : Int) < (N : Int) := by omega
            clear kn hL k0
            go_wp2_with fail
            refine (BinomialOf_of (n := N) (k := K) _ (by omega) kN).mono ?_
            rw [PA.out]
            rintro e w2 ⟨rfl, hb2⟩
            have HB2 := Lib.hid (bw_call hb.out hb2)
            clear hb2
            go_wp2_with fail
            rw [EN.out, EK.out]
            refine (BinomialOf_of (n := M) (k := L) _ (by omega) lL).mono ?_
            rintro e w3 ⟨rfl, hb3⟩
            have HB3 := Lib.hid (bw_call HB2.out hb3)
            clear hb3
            go_wp2_with fail
            refine (B10Bits_any a1 len1 cap1 z1 _ (HW1.out.below HB3.out)).mono ?_
            rintro e wb ⟨xs, rfl, hxl, _, hbb⟩
            have HBB := Lib.hid (bw_call HB3.out hbb)
            have HR1 := Lib.hid (HW1.out.below HBB.out)
            obtain ⟨S, hS⟩ : ∃ S, strOfNums xs = S := ⟨_, rfl⟩
            have hsz : S.size ≤ 40 := by rw [← hS, strOfNums_size]; exact hxl
            rw [hS]
            obtain ⟨cu, H3⟩ : ∃ a, Hid (b10 z1 len1 3 ((S.size : Int) + 1) = a) := ⟨_, Lib.hid rfl⟩
            have b3 : 0 ≤ cu ∧ cu < (S.size : Int) + 1 := H3.out ▸ b10_lt z1 len1 3 (n := (S.size : Int) + 1) (by omega)
            obtain ⟨C, rfl⟩ := Int.eq_ofNat_of_zero_le b3.1
            clear hbb hS hxl
            go_wp2_with fail
            refine (b10At_of HR1.out (by omega) (by omega) (by omega) H3).mono ?_
            rintro e w' ⟨rfl, rfl⟩
            have hS6 : S.size ≤ maxLen := by unfold maxLen; omega
            have cf := ckOf_bd (n := (N : Int)) (by omega) (by omega) (S.extract 0 C).data.toList
            obtain ⟨X, hX⟩ : ∃ X, Hid (ckOf (N : Int) S.data.toList = X) := ⟨_, Lib.hid rfl⟩
            obtain ⟨F, hF⟩ : ∃ X, Hid (ckOf (N : Int) (S.extract 0 C).data.toList = X) := ⟨_, Lib.hid rfl⟩
            have hG := Lib.hid (show ckOf F (S.extract C S.size).data.toList = X by rw [← hF.out, ← ckOf_append, cut_join (by omega), hX.out])
            rw [hF.out] at cf
            go_wp2_with fail
            refine (CheckOf_of (N : Int) S _ (by omega) (by omega) hS6).mono ?_
            rw [hX.out]
            rintro e w' ⟨rfl, rfl⟩
            go_wp2_with fail
            refine (CheckOf_of (N : Int) (S.extract 0 C) _ (by omega) (by omega) (by rw [ByteArray.size_extract]; unfold maxLen; omega)).mono ?_
            rw [hF.out]
            rintro e w' ⟨rfl, rfl⟩
            go_wp2_with fail
            refine (CheckOf_of F (S.extract C S.size) _ cf.1 cf.2 (by rw [ByteArray.size_extract]; unfold maxLen; omega)).mono ?_
            rw [hG.out]
            rintro e w' ⟨rfl, rfl⟩
            go_wp2
            go_ret
            exact ⟨rfl, HBB.out⟩
          · have PA := Lib.hid (show bin N K = bin M L + bin M K by rw [HM.out, hL, bin_ss])
            have lM : K ≤ M := by have := HM.out; omega
            have lL : L ≤ M := by omega
            have v1 : bin M L + bin M K ≤ 1152921504606846976 := by rw [← PA.out]; exact bin_le60 (n := N) K (by omega)
            have v2 := bin_le60 (n := M) K (by omega)
            have v3 := bin_le60 (n := M) L (by omega)
            clear hL
            go_wp2_with fail
            refine (BinomialOf_of (n := N) (k := K) _ (by omega) kN).mono ?_
            rw [PA.out]
            rintro e w2 ⟨rfl, hb2⟩
            have HB2 := Lib.hid (bw_call hb.out hb2)
            clear hb2
            go_wp2_with fail
            rw [EN.out, EK.out]
            refine (BinomialOf_of (n := M) (k := L) _ (by omega) lL).mono ?_
            rintro e w3 ⟨rfl, hb3⟩
            have HB3 := Lib.hid (bw_call HB2.out hb3)
            clear hb3
            go_wp2_with fail
            rw [EN.out]
            refine (BinomialOf_of (n := M) (k := K) _ (by omega) lM).mono ?_
            rintro e w4 ⟨rfl, hb4⟩
            have HB4 := Lib.hid (bw_call HB3.out hb4)
            clear hb4
            go_wp2_with fail
            refine (B10Bits_any a1 len1 cap1 z1 _ (HW1.out.below HB4.out)).mono ?_
            rintro e wb ⟨xs, rfl, hxl, _, hbb⟩
            have HBB := Lib.hid (bw_call HB4.out hbb)
            have HR1 := Lib.hid (HW1.out.below HBB.out)
            obtain ⟨S, hS⟩ : ∃ S, strOfNums xs = S := ⟨_, rfl⟩
            have hsz : S.size ≤ 40 := by rw [← hS, strOfNums_size]; exact hxl
            rw [hS]
            obtain ⟨cu, H3⟩ : ∃ a, Hid (b10 z1 len1 3 ((S.size : Int) + 1) = a) := ⟨_, Lib.hid rfl⟩
            have b3 : 0 ≤ cu ∧ cu < (S.size : Int) + 1 := H3.out ▸ b10_lt z1 len1 3 (n := (S.size : Int) + 1) (by omega)
            obtain ⟨C, rfl⟩ := Int.eq_ofNat_of_zero_le b3.1
            clear hbb hS hxl
            go_wp2_with fail
            refine (b10At_of HR1.out (by omega) (by omega) (by omega) H3).mono ?_
            rintro e w' ⟨rfl, rfl⟩
            have hS6 : S.size ≤ maxLen := by unfold maxLen; omega
            have cf := ckOf_bd (n := (N : Int)) (by omega) (by omega) (S.extract 0 C).data.toList
            obtain ⟨X, hX⟩ : ∃ X, Hid (ckOf (N : Int) S.data.toList = X) := ⟨_, Lib.hid rfl⟩
            obtain ⟨F, hF⟩ : ∃ X, Hid (ckOf (N : Int) (S.extract 0 C).data.toList = X) := ⟨_, Lib.hid rfl⟩
            have hG := Lib.hid (show ckOf F (S.extract C S.size).data.toList = X by rw [← hF.out, ← ckOf_append, cut_join (by omega), hX.out])
            rw [hF.out] at cf
            go_wp2_with fail
            refine (CheckOf_of (N : Int) S _ (by omega) (by omega) hS6).mono ?_
            rw [hX.out]
            rintro e w' ⟨rfl, rfl⟩
            go_wp2_with fail
            refine (CheckOf_of (N : Int) (S.extract 0 C) _ (by omega) (by omega) (by rw [ByteArray.size_extract]; unfold maxLen; omega)).mono ?_
            rw [hF.out]
            rintro e w' ⟨rfl, rfl⟩
            go_wp2_with fail
            refine (CheckOf_of F (S.extract C S.size) _ cf.1 cf.2 (by rw [ByteArray.size_extract]; unfold maxLen; omega)).mono ?_
            rw [hG.out]
            rintro e w' ⟨rfl, rfl⟩
            go_wp2
            go_ret
            exact ⟨rfl, HBB.out⟩
end Go.Proofs.Ytifigkkghfjhpaa
