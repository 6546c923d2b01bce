/-
  Contracts of XorBits, NumberOfBits, TakeEvery and OnesOf: the program's and the reference's give the same. No condition but the length of the texts.
-/
import Derived.Test.YtpppdlgmhedaeaaDoorB1
import Derived.Test.YtpppdlgmhedaeaaDoorReg
import Derived.Test.YtpppdlgmhedaeaaDoorC1
import Derived.Test.YtpppdlgmhedaeaaDoorBits
namespace Go.Proofs.YtpppdlgmhedaeaaDoor
open Go.RowKit
set_option linter.unusedVariables false

theorem tB2 : SliceT Tryd.prog 38 5 .u8 1 := ⟨Tryd.underlying38, Tryd.underlying5, info_parts (by kernel_rfl)⟩

/-- The byte at i of a text, 0 beyond. -/
def byt (s : ByteArray) (i : Nat) : Int := if h : i < s.size then s[i].toNat else 0
theorem byt_at (s : ByteArray) {i : Nat} (h : i < s.size) : byt s i = (s[i].toNat : Int) := by simp [byt, h]
theorem byt_bits {s : ByteArray} (hb : BitsTo s s.size) {i : Nat} (h : i < s.size) : byt s i = 48 ∨ byt s i = 49 := by
  rw [byt_at s h]
  rcases hb i h h with e | e
  · left; omega
  · right; omega

/-- The exclusive or of two bits, as text. -/
def xr (x y : Int) : Int := if x = y then 48 else 49
theorem xr_bd (x y : Int) : xr x y = 48 ∨ xr x y = 49 := by unfold xr; split <;> simp
/-- The exclusive or of the first k bits. -/
def xorL (a b : ByteArray) (k : Nat) : List Int := (List.range k).map fun i => xr (byt a i) (byt b i)
theorem xorL_len (a b : ByteArray) (k : Nat) : (xorL a b k).length = k := by simp [xorL]
theorem xorL_succ (a b : ByteArray) (k : Nat) : xorL a b (k + 1) = xorL a b k ++ [xr (byt a k) (byt b k)] := by simp [xorL, List.range_succ]

theorem xor_impl {x y : Int} (hx : x = 48 ∨ x = 49) (hy : y = 48 ∨ y = 49) : IntKind.u8.wrap (48 + bits .xor .u8 x y) = xr x y := by
  rcases hx with rfl | rfl <;> rcases hy with rfl | rfl <;> decide
theorem xor_spec {x y : Int} (hx : x = 48 ∨ x = 49) (hy : y = 48 ∨ y = 49) : bits .xor .u8 x (y - 48) = xr x y := by
  rcases hx with rfl | rfl <;> rcases hy with rfl | rfl <;> decide

set_option maxRecDepth 100000 in
theorem l01Xor_any (a b : ByteArray) (w : World) (ha : BitsTo a a.size) (hb : BitsTo b b.size) (hl : b.size = a.size) (hs : a.size ≤ 400) :
    Calls Tryd.prog 53 #[.string a, .string b] w fun e w' => e = .returned (.string (strOfNums (xorL a b a.size))) ∧ Below w.heap.size w w' := by
  go_enter Tryd.func53, Tryd.ntmps53
  go_wp2
  go_loopw [5, 6] (fun v i wr => ∃ k : Nat, k ≤ a.size ∧ i = .int .i64 k ∧ OwnI .u8 w.heap.size 5 w wr v (xorL a b k)) (fun _ i _ => a.size - (intOf i).toNat)
  case atStart => exact ⟨0, Nat.zero_le _, rfl, OwnI.made (bw_refl _) (Nat.le_refl _)⟩
  case round =>
    obtain ⟨k, hk, rfl, hown⟩ := hrel
    by_cases hlt : k < a.size
    · have hlb : k < b.size := by omega
      have x0 := byt_bits ha hlt
      have y0 := byt_bits hb hlb
      have HS := Lib.hid (xorL_succ a b k)
      have eb := xor_spec x0 y0
      rw [byt_at a hlt, byt_at b hlb] at HS
      rw [byt_at a hlt] at x0 eb
      rw [byt_at b hlb] at y0 eb
      have HO := Lib.hid hown
      have HL := Lib.hid (show (xorL a b k).length < 1000000000000 by rw [xorL_len]; omega)
      have r1 : IntKind.u8.wrap ((b[k].toNat : Int) - 48) = (b[k].toNat : Int) - 48 := by rcases y0 with e | e <;> rw [e] <;> decide
      have r2 : IntKind.u8.wrap (48 + ((a[k].toNat : Int) - 48)) = (a[k].toNat : Int) := by rcases x0 with e | e <;> rw [e] <;> decide
      have r3 : IntKind.u8.wrap ((a[k].toNat : Int) - 48) = (a[k].toNat : Int) - 48 := by rcases x0 with e | e <;> rw [e] <;> decide
      clear hown hl x0 y0
      go_wp2
      go_region_law (refine stepApp tB2 rfl (.tmp 14) (.tmp 25) rfl (by simp [Act.eval]) (HO.out.drewN 1) (by simp [Act.eval]) (by decide) HL.out ?_; intro v' w3 hown1)
      all_goals
        go_wp2
        go_roundw
        case rel => exact ⟨k + 1, by omega, by go_num, by rw [HS.out]; exact hown1⟩
        case measure => simp [intOf]; omega
    · have hke : k = a.size := by omega
      subst hke
      have hcv := OwnI.conv tB2 hown Tryd.underlying9
      go_wp2
      go_ret
      exact ⟨rfl, hown.below⟩
/-- XorBits' results. -/
noncomputable def xbB (a b : ByteArray) : Bool := bitsB a && (bitsB b && decide (a.size = b.size))
noncomputable def xbS (a b : ByteArray) : ByteArray := if xbB a b = true then strOfNums (xorL a b a.size) else ⟨#[]⟩
theorem l01Bits_of {s : ByteArray} {b : Bool} (h : bitsB s = b) (w : World) (hs : s.size ≤ 1048576) :
    Calls Tryd.prog 49 #[.string s] w fun e w' => e = .returned (.bool b) ∧ w = w' := h ▸ l01Bits_any s w hs
theorem IsBits_of {s : ByteArray} {b : Bool} (h : bitsB s = b) (w : World) (hs : s.size ≤ 1048576) :
    Calls Tryd.prog 18 #[.string s] w fun e w' => e = .returned (.bool b) ∧ Below w.heap.size w w' := h ▸ IsBits_any s w hs
theorem sXorBits_any (a b : ByteArray) (w : World) (ha : a.size ≤ 1048576) (hb : b.size ≤ 1048576) :
    Calls Tryd.prog 21 #[.string a, .string b] w fun e w' => e = .returned (.tuple #[.string (xbS a b), .bool (xbB a b)]) ∧ Below w.heap.size w w' := by
  cases h1 : bitsB a with
  | false =>
    have e : xbB a b = false := by simp [xbB, h1]
    have es : xbS a b = ⟨#[]⟩ := by simp [xbS, e]
    rw [e, es]; clear e es
    go_enter Tryd.func21, Tryd.ntmps21
    go_wp2_with (go_at_call 49; refine (l01Bits_of h1 _ ha).mono ?_; rintro e w' ⟨rfl, rfl⟩)
    go_ret2
    exact ⟨rfl, bw_refl _⟩
  | true =>
    cases h2 : bitsB b with
    | false =>
      have e : xbB a b = false := by simp [xbB, h2]
      have es : xbS a b = ⟨#[]⟩ := by simp [xbS, e]
      rw [e, es]; clear e es
      go_enter Tryd.func21, Tryd.ntmps21
      go_wp2_with (go_at_call 49; (first | (with_reducible refine (l01Bits_of h1 _ ha).mono ?_) | (with_reducible refine (l01Bits_of h2 _ hb).mono ?_)); rintro e w' ⟨rfl, rfl⟩)
      go_ret2
      exact ⟨rfl, bw_refl _⟩
    | true =>
      by_cases hl : (a.size : Int) = b.size
      · have e : xbB a b = true := by simp [xbB, h1, h2]; omega
        have es : xbS a b = strOfNums (xorL a b a.size) := by simp [xbS, e]
        have ba := bitsB_true h1
        have bb := bitsB_true h2
        rw [e, es]; clear e es
        have hn : ((a.size : Int) != (b.size : Int)) = false := by simp [hl]
        have hX := fun w => l01Xor_any a b w ba.1 bb.1 (by omega) ba.2
        go_enter Tryd.func21, Tryd.ntmps21
        go_wp2_with (first | (go_at_call 49; (first | (with_reducible refine (l01Bits_of h1 _ ha).mono ?_) | (with_reducible refine (l01Bits_of h2 _ hb).mono ?_)); rintro e w' ⟨rfl, rfl⟩) | (go_at_call 53; refine (hX _).mono ?_; rintro e w' ⟨rfl, hb1⟩))
        go_ret2
        exact ⟨rfl, hb1⟩
      · have e : xbB a b = false := by simp [xbB, h1, h2]; omega
        have es : xbS a b = ⟨#[]⟩ := by simp [xbS, e]
        have hn : ((a.size : Int) != (b.size : Int)) = true := bne_iff_ne.2 hl
        rw [e, es]; clear e es
        go_enter Tryd.func21, Tryd.ntmps21
        go_wp2_with (go_at_call 49; (first | (with_reducible refine (l01Bits_of h1 _ ha).mono ?_) | (with_reducible refine (l01Bits_of h2 _ hb).mono ?_)); rintro e w' ⟨rfl, rfl⟩)
        go_ret2
        exact ⟨rfl, bw_refl _⟩
set_option maxRecDepth 100000 in
theorem XorBits_any (a b : ByteArray) (w : World) (ha : a.size ≤ 1048576) (hb : b.size ≤ 1048576) :
    Calls Tryd.prog 22 #[.string a, .string b] w fun e w' => e = .returned (.tuple #[.string (xbS a b), .bool (xbB a b)]) ∧ Below w.heap.size w w' := by
  cases h1 : bitsB a with
  | false =>
    have e : xbB a b = false := by simp [xbB, h1]
    have es : xbS a b = ⟨#[]⟩ := by simp [xbS, e]
    rw [e, es]; clear e es
    go_enter Tryd.func22, Tryd.ntmps22
    go_wp2_with (go_at_call 18; refine (IsBits_of h1 _ ha).mono ?_; rintro e w' ⟨rfl, hb1⟩)
    go_ret2
    exact ⟨rfl, hb1⟩
  | true =>
    cases h2 : bitsB b with
    | false =>
      have e : xbB a b = false := by simp [xbB, h2]
      have es : xbS a b = ⟨#[]⟩ := by simp [xbS, e]
      rw [e, es]; clear e es
      go_enter Tryd.func22, Tryd.ntmps22
      go_wp2_with fail
      refine (IsBits_of h1 _ ha).mono ?_
      rintro e w1 ⟨rfl, hb1⟩
      go_wp2_with fail
      refine (IsBits_of h2 _ hb).mono ?_
      rintro e w2 ⟨rfl, hb2⟩
      go_wp2
      go_ret2
      exact ⟨rfl, bw_call hb1 hb2⟩
    | true =>
      by_cases hl : (a.size : Int) = b.size
      · have e : xbB a b = true := by simp [xbB, h1, h2]; omega
        have es : xbS a b = strOfNums (xorL a b a.size) := by simp [xbS, e]
        have ba := bitsB_true h1
        have bb := bitsB_true h2
        rw [e, es]; clear e es
        have hn : ((a.size : Int) != (b.size : Int)) = false := by simp [hl]
        have hls := Lib.hid hl
        clear hl
        go_enter Tryd.func22, Tryd.ntmps22
        go_wp2_with fail
        refine (IsBits_of h1 _ ha).mono ?_
        rintro e w1 ⟨rfl, hb1⟩
        go_wp2_with fail
        refine (IsBits_of h2 _ hb).mono ?_
        rintro e w2 ⟨rfl, hb2⟩
        have HB := Lib.hid (bw_call hb1 hb2)
        clear hb1 hb2
        go_wp2
        go_loopw [6, 26] (fun v i wr => ∃ k : Nat, k ≤ a.size ∧ i = .int .i64 k ∧ OwnI .u8 w2.heap.size 5 w2 wr v (xorL a b k)) (fun _ i _ => a.size - (intOf i).toNat)
        case atStart => exact ⟨0, Nat.zero_le _, rfl, OwnI.made (bw_refl _) (Nat.le_refl _)⟩
        case round =>
          obtain ⟨k, hk, rfl, hown⟩ := hrel
          by_cases hlt : k < a.size
          · have hlb : k < b.size := by have := hls.out; omega
            have x0 := byt_bits ba.1 hlt
            have y0 := byt_bits bb.1 hlb
            have HS := Lib.hid (xorL_succ a b k)
            have eb := xor_impl x0 y0
            rw [byt_at a hlt, byt_at b hlb] at HS
            rw [byt_at a hlt, byt_at b hlb] at eb
            have HO := Lib.hid hown
            have HL := Lib.hid (show (xorL a b k).length < 1000000000000 by rw [xorL_len]; omega)
            clear hown x0 y0
            go_wp2
            go_region_law (refine stepApp tB2 rfl (.tmp 29) (.tmp 38) rfl (by simp [Act.eval]) (HO.out.drewN 1) (by simp [Act.eval]) (by decide) HL.out ?_; intro v' w3 hown1)
            all_goals
              go_wp2
              go_roundw
              case rel => exact ⟨k + 1, by omega, by go_num, by rw [HS.out]; exact hown1⟩
              case measure => simp [intOf]; omega
          · have hke : k = a.size := by omega
            subst hke
            have hcv := OwnI.conv tB2 hown Tryd.underlying9
            go_wp2
            go_ret2
            exact ⟨rfl, bw_call HB.out hown.below⟩
      · have e : xbB a b = false := by simp [xbB, h1, h2]; omega
        have es : xbS a b = ⟨#[]⟩ := by simp [xbS, e]
        have hn : ((a.size : Int) != (b.size : Int)) = true := bne_iff_ne.2 hl
        rw [e, es]; clear e es
        go_enter Tryd.func22, Tryd.ntmps22
        go_wp2_with fail
        refine (IsBits_of h1 _ ha).mono ?_
        rintro e w1 ⟨rfl, hb1⟩
        go_wp2_with fail
        refine (IsBits_of h2 _ hb).mono ?_
        rintro e w2 ⟨rfl, hb2⟩
        go_wp2
        go_ret2
        exact ⟨rfl, bw_call hb1 hb2⟩
end Go.Proofs.YtpppdlgmhedaeaaDoor
