/-
  Contracts of XorBits, NumberOfBits, TakeEvery and OnesOf: the program's and the reference's give the same. No condition but the length of the texts.
-/
import Derived.Test.YtdnikkmioighkaaDoorB1
import Derived.Test.YtdnikkmioighkaaDoorReg
import Derived.Test.YtdnikkmioighkaaDoorC1
import Derived.Test.YtdnikkmioighkaaDoorBits
namespace Go.Proofs.YtdnikkmioighkaaDoor
open Go.RowKit
set_option linter.unusedVariables false

theorem tB2 : SliceT Tryd.prog 25 5 .u8 1 := ⟨Tryd.underlying25, Tryd.underlying5, info_parts (by kernel_rfl)⟩

/-- The byte at i of a text, 0 beyond. -/
def byt (s : ByteArray) (i : Nat) : Int := if h : i < s.size then s[i].toNat else 0
theorem byt_at (s : ByteArray) {i : Nat} (h : i < s.size) : byt s i = (s[i].toNat : Int) := by simp [byt, h]
theorem byt_bits {s : ByteArray} (hb : BitsTo s s.size) {i : Nat} (h : i < s.size) : byt s i = 48 ∨ byt s i = 49 := by
  rw [byt_at s h]
  rcases hb i h h with e | e
  · left; omega
  · right; omega

/-- The exclusive or of two bits, as text. -/
def xr (x y : Int) : Int := if x = y then 48 else 49
theorem xr_bd (x y : Int) : xr x y = 48 ∨ xr x y = 49 := by unfold xr; split <;> simp
/-- The exclusive or of the first k bits. -/
def xorL (a b : ByteArray) (k : Nat) : List Int := (List.range k).map fun i => xr (byt a i) (byt b i)
theorem xorL_len (a b : ByteArray) (k : Nat) : (xorL a b k).length = k := by simp [xorL]
theorem xorL_succ (a b : ByteArray) (k : Nat) : xorL a b (k + 1) = xorL a b k ++ [xr (byt a k) (byt b k)] := by simp [xorL, List.range_succ]

theorem xor_impl {x y : Int} (hx : x = 48 ∨ x = 49) (hy : y = 48 ∨ y = 49) : IntKind.u8.wrap (48 + bits .xor .u8 x y) = xr x y := by
  rcases hx with rfl | rfl <;> rcases hy with rfl | rfl <;> decide
theorem xor_spec {x y : Int} (hx : x = 48 ∨ x = 49) (hy : y = 48 ∨ y = 49) : bits .xor .u8 x (y - 48) = xr x y := by
  rcases hx with rfl | rfl <;> rcases hy with rfl | rfl <;> decide

/-- XorBits' results. -/
noncomputable def xbB (a b : ByteArray) : Bool := bitsB a && (bitsB b && decide (a.size = b.size))
noncomputable def xbS (a b : ByteArray) : ByteArray := if xbB a b = true then strOfNums (xorL a b a.size) else ⟨#[]⟩
theorem IsBits_of {s : ByteArray} {b : Bool} (h : bitsB s = b) (w : World) (hs : s.size ≤ 1048576) :
    Calls Tryd.prog 18 #[.string s] w fun e w' => e = .returned (.bool b) ∧ Below w.heap.size w w' := h ▸ IsBits_any s w hs
end Go.Proofs.YtdnikkmioighkaaDoor
