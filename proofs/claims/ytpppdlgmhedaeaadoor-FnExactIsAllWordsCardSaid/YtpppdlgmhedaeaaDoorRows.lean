/-
  NARROWER THAN 'FOR EVERY INPUT', by the rows' own cells (each row's printed sentence says how): FnExactDecimal: laid · FnExactIsBits: laid · FnExactTakeEvery: laid · FnExactXorBits: laid · FnExactNumberOfBits: laid · FnExactIsAllWords: laid · FnExactRunLengths: laid · FnExactAgreementsOf: laid · FnExactOnesOf: laid · FnBits: laid · FnExactLeastAllWords: laid · FnAllWords: laid.
  DERIVED. THE GIVEN ROWS OF THIS SEAT. 12 by the template 'for every input the law returns true; each argument reads behind the call as it read before'; 0 by the template 'total and deterministic' (their statements: YtpppdlgmhedaeaaDoorTotals.lean).
  GIVEN WITH THE SEED: the statements are not yours to turn. If you find one false, say at which input.
  Laid BY PROGRAM, IN A SANDBOX (cutbox-rows.mjs): the forced cells as the released guide's own fill.sh prints them over the translation a96ebd745ff240db… (all of the seat's roots in one cut). By AI agents, Wed Nov 11 2026. No macro, syntax, notation, axiom, sorry.
-/
import Derived.Test.YtpppdlgmhedaeaaDoorChecked
import GoSem.PinnedTables
import GoSem.Claim
import GoSem.ClaimJoined
import GoSem.ClaimMapViews
import Derived.JoinedTies
import Derived.KernelRfl
namespace Go.Proofs.YtpppdlgmhedaeaaDoor
/- THE CELL 'sum', in the pinned program and in every row, IS THE sha256 OF THE DUMP (.gsa) THAT YtpppdlgmhedaeaaDoorProg.lean LOADS. Nothing in Lean hashes anything: it is a label: what it is worth is what the hold of that sum in a sandbox is worth. -/
noncomputable def Tryd.pinned : Pinned := { name := "ytpppdlgmhedaeaadoor", sum := "a96ebd745ff240db08d9297d7bce7b076bf7fafdefc205016e16511f4c664fe6", checked := Tryd.checked }
namespace Rows
def none {H : Type} : Left H := { results := [], args := [] }

/- WHAT THE LISTED PACKAGE-LEVEL VARIABLES READ AS WHEN THE CALL BEGINS. Each datum BY PROGRAM (the guide's laid-datum.mjs) off the statement by which the dump's own 'gosem.cut.vars' lays the variable. In a bare row this is a premise. The card (YtpppdlgmhedaeaaDoorCards.lean) ties it to the program's text. -/
def laid_math_bits_deBruijn32tab {H : Type} : DataW H := .agg [.lit (.int .u8 0), .lit (.int .u8 1), .lit (.int .u8 28), .lit (.int .u8 2), .lit (.int .u8 29), .lit (.int .u8 14), .lit (.int .u8 24), .lit (.int .u8 3), .lit (.int .u8 30), .lit (.int .u8 22), .lit (.int .u8 20), .lit (.int .u8 15), .lit (.int .u8 25), .lit (.int .u8 17), .lit (.int .u8 4), .lit (.int .u8 8), .lit (.int .u8 31), .lit (.int .u8 27), .lit (.int .u8 13), .lit (.int .u8 23), .lit (.int .u8 21), .lit (.int .u8 19), .lit (.int .u8 16), .lit (.int .u8 7), .lit (.int .u8 26), .lit (.int .u8 12), .lit (.int .u8 18), .lit (.int .u8 6), .lit (.int .u8 11), .lit (.int .u8 5), .lit (.int .u8 10), .lit (.int .u8 9)]
def laid_math_bits_deBruijn64tab {H : Type} : DataW H := .agg [.lit (.int .u8 0), .lit (.int .u8 1), .lit (.int .u8 56), .lit (.int .u8 2), .lit (.int .u8 57), .lit (.int .u8 49), .lit (.int .u8 28), .lit (.int .u8 3), .lit (.int .u8 61), .lit (.int .u8 58), .lit (.int .u8 42), .lit (.int .u8 50), .lit (.int .u8 38), .lit (.int .u8 29), .lit (.int .u8 17), .lit (.int .u8 4), .lit (.int .u8 62), .lit (.int .u8 47), .lit (.int .u8 59), .lit (.int .u8 36), .lit (.int .u8 45), .lit (.int .u8 43), .lit (.int .u8 51), .lit (.int .u8 22), .lit (.int .u8 53), .lit (.int .u8 39), .lit (.int .u8 33), .lit (.int .u8 30), .lit (.int .u8 24), .lit (.int .u8 18), .lit (.int .u8 12), .lit (.int .u8 5), .lit (.int .u8 63), .lit (.int .u8 55), .lit (.int .u8 48), .lit (.int .u8 27), .lit (.int .u8 60), .lit (.int .u8 41), .lit (.int .u8 37), .lit (.int .u8 16), .lit (.int .u8 46), .lit (.int .u8 35), .lit (.int .u8 44), .lit (.int .u8 21), .lit (.int .u8 52), .lit (.int .u8 32), .lit (.int .u8 23), .lit (.int .u8 11), .lit (.int .u8 54), .lit (.int .u8 26), .lit (.int .u8 40), .lit (.int .u8 15), .lit (.int .u8 34), .lit (.int .u8 20), .lit (.int .u8 31), .lit (.int .u8 10), .lit (.int .u8 25), .lit (.int .u8 14), .lit (.int .u8 19), .lit (.int .u8 9), .lit (.int .u8 13), .lit (.int .u8 8), .lit (.int .u8 7), .lit (.int .u8 6)]
def laid_internal_strconv_uint64pow10 {H : Type} : DataW H := .agg [.lit (.int .u64 1), .lit (.int .u64 10), .lit (.int .u64 100), .lit (.int .u64 1000), .lit (.int .u64 10000), .lit (.int .u64 100000), .lit (.int .u64 1000000), .lit (.int .u64 10000000), .lit (.int .u64 100000000), .lit (.int .u64 1000000000), .lit (.int .u64 10000000000), .lit (.int .u64 100000000000), .lit (.int .u64 1000000000000), .lit (.int .u64 10000000000000), .lit (.int .u64 100000000000000), .lit (.int .u64 1000000000000000), .lit (.int .u64 10000000000000000), .lit (.int .u64 100000000000000000), .lit (.int .u64 1000000000000000000), .lit (.int .u64 10000000000000000000)]
def laid_unicode_utf8_acceptRanges {H : Type} : DataW H := .agg [.agg [.lit (.int .u8 128), .lit (.int .u8 191)], .agg [.lit (.int .u8 160), .lit (.int .u8 191)], .agg [.lit (.int .u8 128), .lit (.int .u8 159)], .agg [.lit (.int .u8 144), .lit (.int .u8 191)], .agg [.lit (.int .u8 128), .lit (.int .u8 143)], .agg [.lit (.int .u8 0), .lit (.int .u8 0)], .agg [.lit (.int .u8 0), .lit (.int .u8 0)], .agg [.lit (.int .u8 0), .lit (.int .u8 0)], .agg [.lit (.int .u8 0), .lit (.int .u8 0)], .agg [.lit (.int .u8 0), .lit (.int .u8 0)], .agg [.lit (.int .u8 0), .lit (.int .u8 0)], .agg [.lit (.int .u8 0), .lit (.int .u8 0)], .agg [.lit (.int .u8 0), .lit (.int .u8 0)], .agg [.lit (.int .u8 0), .lit (.int .u8 0)], .agg [.lit (.int .u8 0), .lit (.int .u8 0)], .agg [.lit (.int .u8 0), .lit (.int .u8 0)]]
/-- One of Go's own tables, pinned by name: the form's constant. -/
def laid_unicode_utf8_first : DataW Unit := Go.Pinned.utf8First

/-- 'laws.FnExactDecimal': WHATEVER THE INPUT: true; the input reads as it did. -/
def fnExactDecimalSpec : ChangeSpec := { name := "fnExactDecimal", fn := fun _ => fun
  | [d] => { results := [.lit (.bool true)], args := [d] }
  | _ => none }
def fnExactDecimalRow : OpenClaim := { program := "ytpppdlgmhedaeaadoor", sum := "a96ebd745ff240db08d9297d7bce7b076bf7fafdefc205016e16511f4c664fe6", func := "loop.example/g01121/laws.FnExactDecimal", spec := "fnExactDecimal", named := ["internal/strconv.uint64pow10", "math/bits.deBruijn32tab", "math/bits.deBruijn64tab"], apart := false, laid := [("math/bits.deBruijn32tab", laid_math_bits_deBruijn32tab), ("math/bits.deBruijn64tab", laid_math_bits_deBruijn64tab), ("internal/strconv.uint64pow10", laid_internal_strconv_uint64pow10)] }
def FnExactDecimalSaid : Prop := fnExactDecimalRow.holds Tryd.pinned (OpenSpec.ofChange fnExactDecimalSpec)

/-- ITS FALSE NEIGHBOUR: 'it returns false'. Refute it at one input. -/
def fnExactDecimalWrong : ChangeSpec := { name := "fnExactDecimal", fn := fun _ => fun
  | [d] => { results := [.lit (.bool false)], args := [d] }
  | _ => none }
def FnExactDecimalWrongFalsely : Prop := fnExactDecimalRow.holds Tryd.pinned (OpenSpec.ofChange fnExactDecimalWrong)

/-- 'laws.FnExactIsBits': WHATEVER THE INPUT: true; the input reads as it did. -/
def fnExactIsBitsSpec : ChangeSpec := { name := "fnExactIsBits", fn := fun _ => fun
  | [d] => { results := [.lit (.bool true)], args := [d] }
  | _ => none }
def fnExactIsBitsRow : OpenClaim := { program := "ytpppdlgmhedaeaadoor", sum := "a96ebd745ff240db08d9297d7bce7b076bf7fafdefc205016e16511f4c664fe6", func := "loop.example/g01121/laws.FnExactIsBits", spec := "fnExactIsBits", inPlace := ["internal/bytealg.IndexByteString", "internal/bytealg.IndexString"], named := ["unicode/utf8.first", "unicode/utf8.acceptRanges", "internal/bytealg.MaxLen"], apart := false, laid := [("unicode/utf8.acceptRanges", laid_unicode_utf8_acceptRanges), ("unicode/utf8.first", laid_unicode_utf8_first)] }
def FnExactIsBitsSaid : Prop := fnExactIsBitsRow.holds Tryd.pinned (OpenSpec.ofChange fnExactIsBitsSpec)

/-- ITS FALSE NEIGHBOUR: 'it returns false'. Refute it at one input. -/
def fnExactIsBitsWrong : ChangeSpec := { name := "fnExactIsBits", fn := fun _ => fun
  | [d] => { results := [.lit (.bool false)], args := [d] }
  | _ => none }
def FnExactIsBitsWrongFalsely : Prop := fnExactIsBitsRow.holds Tryd.pinned (OpenSpec.ofChange fnExactIsBitsWrong)

/-- 'laws.FnExactTakeEvery': WHATEVER THE INPUT: true; the input reads as it did. -/
def fnExactTakeEverySpec : ChangeSpec := { name := "fnExactTakeEvery", fn := fun _ => fun
  | [d1, d2] => { results := [.lit (.bool true)], args := [d1, d2] }
  | _ => none }
def fnExactTakeEveryRow : OpenClaim := { program := "ytpppdlgmhedaeaadoor", sum := "a96ebd745ff240db08d9297d7bce7b076bf7fafdefc205016e16511f4c664fe6", func := "loop.example/g01121/laws.FnExactTakeEvery", spec := "fnExactTakeEvery", inPlace := ["internal/bytealg.IndexByteString", "internal/bytealg.IndexString"], named := ["unicode/utf8.first", "unicode/utf8.acceptRanges", "internal/bytealg.MaxLen"], apart := false, laid := [("unicode/utf8.acceptRanges", laid_unicode_utf8_acceptRanges), ("unicode/utf8.first", laid_unicode_utf8_first)] }
def FnExactTakeEverySaid : Prop := fnExactTakeEveryRow.holds Tryd.pinned (OpenSpec.ofChange fnExactTakeEverySpec)

/-- ITS FALSE NEIGHBOUR: 'it returns false'. Refute it at one input. -/
def fnExactTakeEveryWrong : ChangeSpec := { name := "fnExactTakeEvery", fn := fun _ => fun
  | [d1, d2] => { results := [.lit (.bool false)], args := [d1, d2] }
  | _ => none }
def FnExactTakeEveryWrongFalsely : Prop := fnExactTakeEveryRow.holds Tryd.pinned (OpenSpec.ofChange fnExactTakeEveryWrong)

/-- 'laws.FnExactXorBits': WHATEVER THE INPUT: true; the input reads as it did. -/
def fnExactXorBitsSpec : ChangeSpec := { name := "fnExactXorBits", fn := fun _ => fun
  | [d1, d2] => { results := [.lit (.bool true)], args := [d1, d2] }
  | _ => none }
def fnExactXorBitsRow : OpenClaim := { program := "ytpppdlgmhedaeaadoor", sum := "a96ebd745ff240db08d9297d7bce7b076bf7fafdefc205016e16511f4c664fe6", func := "loop.example/g01121/laws.FnExactXorBits", spec := "fnExactXorBits", inPlace := ["internal/bytealg.IndexByteString", "internal/bytealg.IndexString"], named := ["unicode/utf8.first", "unicode/utf8.acceptRanges", "internal/bytealg.MaxLen"], apart := false, laid := [("unicode/utf8.acceptRanges", laid_unicode_utf8_acceptRanges), ("unicode/utf8.first", laid_unicode_utf8_first)] }
def FnExactXorBitsSaid : Prop := fnExactXorBitsRow.holds Tryd.pinned (OpenSpec.ofChange fnExactXorBitsSpec)

/-- ITS FALSE NEIGHBOUR: 'it returns false'. Refute it at one input. -/
def fnExactXorBitsWrong : ChangeSpec := { name := "fnExactXorBits", fn := fun _ => fun
  | [d1, d2] => { results := [.lit (.bool false)], args := [d1, d2] }
  | _ => none }
def FnExactXorBitsWrongFalsely : Prop := fnExactXorBitsRow.holds Tryd.pinned (OpenSpec.ofChange fnExactXorBitsWrong)

/-- 'laws.FnExactNumberOfBits': WHATEVER THE INPUT: true; the input reads as it did. -/
def fnExactNumberOfBitsSpec : ChangeSpec := { name := "fnExactNumberOfBits", fn := fun _ => fun
  | [d] => { results := [.lit (.bool true)], args := [d] }
  | _ => none }
def fnExactNumberOfBitsRow : OpenClaim := { program := "ytpppdlgmhedaeaadoor", sum := "a96ebd745ff240db08d9297d7bce7b076bf7fafdefc205016e16511f4c664fe6", func := "loop.example/g01121/laws.FnExactNumberOfBits", spec := "fnExactNumberOfBits", inPlace := ["internal/bytealg.IndexByteString", "internal/bytealg.IndexString"], named := ["unicode/utf8.first", "unicode/utf8.acceptRanges", "internal/bytealg.MaxLen"], apart := false, laid := [("unicode/utf8.acceptRanges", laid_unicode_utf8_acceptRanges), ("unicode/utf8.first", laid_unicode_utf8_first)] }
def FnExactNumberOfBitsSaid : Prop := fnExactNumberOfBitsRow.holds Tryd.pinned (OpenSpec.ofChange fnExactNumberOfBitsSpec)

/-- ITS FALSE NEIGHBOUR: 'it returns false'. Refute it at one input. -/
def fnExactNumberOfBitsWrong : ChangeSpec := { name := "fnExactNumberOfBits", fn := fun _ => fun
  | [d] => { results := [.lit (.bool false)], args := [d] }
  | _ => none }
def FnExactNumberOfBitsWrongFalsely : Prop := fnExactNumberOfBitsRow.holds Tryd.pinned (OpenSpec.ofChange fnExactNumberOfBitsWrong)

/-- 'laws.FnExactIsAllWords': WHATEVER THE INPUT: true; the input reads as it did. -/
def fnExactIsAllWordsSpec : ChangeSpec := { name := "fnExactIsAllWords", fn := fun _ => fun
  | [d1, d2] => { results := [.lit (.bool true)], args := [d1, d2] }
  | _ => none }
def fnExactIsAllWordsRow : OpenClaim := { program := "ytpppdlgmhedaeaadoor", sum := "a96ebd745ff240db08d9297d7bce7b076bf7fafdefc205016e16511f4c664fe6", func := "loop.example/g01121/laws.FnExactIsAllWords", spec := "fnExactIsAllWords", inPlace := ["internal/bytealg.IndexByteString", "internal/bytealg.IndexString"], named := ["unicode/utf8.first", "unicode/utf8.acceptRanges", "internal/bytealg.MaxLen"], apart := false, laid := [("unicode/utf8.acceptRanges", laid_unicode_utf8_acceptRanges), ("unicode/utf8.first", laid_unicode_utf8_first)] }
def FnExactIsAllWordsSaid : Prop := fnExactIsAllWordsRow.holds Tryd.pinned (OpenSpec.ofChange fnExactIsAllWordsSpec)

/-- ITS FALSE NEIGHBOUR: 'it returns false'. Refute it at one input. -/
def fnExactIsAllWordsWrong : ChangeSpec := { name := "fnExactIsAllWords", fn := fun _ => fun
  | [d1, d2] => { results := [.lit (.bool false)], args := [d1, d2] }
  | _ => none }
def FnExactIsAllWordsWrongFalsely : Prop := fnExactIsAllWordsRow.holds Tryd.pinned (OpenSpec.ofChange fnExactIsAllWordsWrong)

/-- 'laws.FnExactRunLengths': WHATEVER THE INPUT: true; the input reads as it did. -/
def fnExactRunLengthsSpec : ChangeSpec := { name := "fnExactRunLengths", fn := fun _ => fun
  | [d] => { results := [.lit (.bool true)], args := [d] }
  | _ => none }
def fnExactRunLengthsRow : OpenClaim := { program := "ytpppdlgmhedaeaadoor", sum := "a96ebd745ff240db08d9297d7bce7b076bf7fafdefc205016e16511f4c664fe6", func := "loop.example/g01121/laws.FnExactRunLengths", spec := "fnExactRunLengths", inPlace := ["internal/bytealg.IndexByteString", "internal/bytealg.IndexString"], named := ["unicode/utf8.first", "unicode/utf8.acceptRanges", "internal/bytealg.MaxLen"], apart := false, laid := [("unicode/utf8.acceptRanges", laid_unicode_utf8_acceptRanges), ("unicode/utf8.first", laid_unicode_utf8_first)] }
def FnExactRunLengthsSaid : Prop := fnExactRunLengthsRow.holds Tryd.pinned (OpenSpec.ofChange fnExactRunLengthsSpec)

/-- ITS FALSE NEIGHBOUR: 'it returns false'. Refute it at one input. -/
def fnExactRunLengthsWrong : ChangeSpec := { name := "fnExactRunLengths", fn := fun _ => fun
  | [d] => { results := [.lit (.bool false)], args := [d] }
  | _ => none }
def FnExactRunLengthsWrongFalsely : Prop := fnExactRunLengthsRow.holds Tryd.pinned (OpenSpec.ofChange fnExactRunLengthsWrong)

/-- 'laws.FnExactAgreementsOf': WHATEVER THE INPUT: true; the input reads as it did. -/
def fnExactAgreementsOfSpec : ChangeSpec := { name := "fnExactAgreementsOf", fn := fun _ => fun
  | [d] => { results := [.lit (.bool true)], args := [d] }
  | _ => none }
def fnExactAgreementsOfRow : OpenClaim := { program := "ytpppdlgmhedaeaadoor", sum := "a96ebd745ff240db08d9297d7bce7b076bf7fafdefc205016e16511f4c664fe6", func := "loop.example/g01121/laws.FnExactAgreementsOf", spec := "fnExactAgreementsOf", inPlace := ["internal/bytealg.IndexByteString", "internal/bytealg.IndexString"], named := ["unicode/utf8.first", "unicode/utf8.acceptRanges", "internal/bytealg.MaxLen"], apart := false, laid := [("unicode/utf8.acceptRanges", laid_unicode_utf8_acceptRanges), ("unicode/utf8.first", laid_unicode_utf8_first)] }
def FnExactAgreementsOfSaid : Prop := fnExactAgreementsOfRow.holds Tryd.pinned (OpenSpec.ofChange fnExactAgreementsOfSpec)

/-- ITS FALSE NEIGHBOUR: 'it returns false'. Refute it at one input. -/
def fnExactAgreementsOfWrong : ChangeSpec := { name := "fnExactAgreementsOf", fn := fun _ => fun
  | [d] => { results := [.lit (.bool false)], args := [d] }
  | _ => none }
def FnExactAgreementsOfWrongFalsely : Prop := fnExactAgreementsOfRow.holds Tryd.pinned (OpenSpec.ofChange fnExactAgreementsOfWrong)

/-- 'laws.FnExactOnesOf': WHATEVER THE INPUT: true; the input reads as it did. -/
def fnExactOnesOfSpec : ChangeSpec := { name := "fnExactOnesOf", fn := fun _ => fun
  | [d] => { results := [.lit (.bool true)], args := [d] }
  | _ => none }
def fnExactOnesOfRow : OpenClaim := { program := "ytpppdlgmhedaeaadoor", sum := "a96ebd745ff240db08d9297d7bce7b076bf7fafdefc205016e16511f4c664fe6", func := "loop.example/g01121/laws.FnExactOnesOf", spec := "fnExactOnesOf", inPlace := ["internal/bytealg.IndexByteString", "internal/bytealg.IndexString", "internal/bytealg.CountString"], named := ["unicode/utf8.first", "unicode/utf8.acceptRanges", "internal/bytealg.MaxLen"], apart := false, laid := [("unicode/utf8.acceptRanges", laid_unicode_utf8_acceptRanges), ("unicode/utf8.first", laid_unicode_utf8_first)] }
def FnExactOnesOfSaid : Prop := fnExactOnesOfRow.holds Tryd.pinned (OpenSpec.ofChange fnExactOnesOfSpec)

/-- ITS FALSE NEIGHBOUR: 'it returns false'. Refute it at one input. -/
def fnExactOnesOfWrong : ChangeSpec := { name := "fnExactOnesOf", fn := fun _ => fun
  | [d] => { results := [.lit (.bool false)], args := [d] }
  | _ => none }
def FnExactOnesOfWrongFalsely : Prop := fnExactOnesOfRow.holds Tryd.pinned (OpenSpec.ofChange fnExactOnesOfWrong)

/-- 'laws.FnBits': WHATEVER THE INPUT: true; the input reads as it did. -/
def fnBitsSpec : ChangeSpec := { name := "fnBits", fn := fun _ => fun
  | [d1, d2] => { results := [.lit (.bool true)], args := [d1, d2] }
  | _ => none }
def fnBitsRow : OpenClaim := { program := "ytpppdlgmhedaeaadoor", sum := "a96ebd745ff240db08d9297d7bce7b076bf7fafdefc205016e16511f4c664fe6", func := "loop.example/g01121/laws.FnBits", spec := "fnBits", inPlace := ["internal/bytealg.IndexByteString", "internal/bytealg.IndexString", "internal/bytealg.CountString"], named := ["unicode/utf8.first", "unicode/utf8.acceptRanges", "internal/bytealg.MaxLen"], apart := false, laid := [("unicode/utf8.acceptRanges", laid_unicode_utf8_acceptRanges), ("unicode/utf8.first", laid_unicode_utf8_first)] }
def FnBitsSaid : Prop := fnBitsRow.holds Tryd.pinned (OpenSpec.ofChange fnBitsSpec)

/-- ITS FALSE NEIGHBOUR: 'it returns false'. Refute it at one input. -/
def fnBitsWrong : ChangeSpec := { name := "fnBits", fn := fun _ => fun
  | [d1, d2] => { results := [.lit (.bool false)], args := [d1, d2] }
  | _ => none }
def FnBitsWrongFalsely : Prop := fnBitsRow.holds Tryd.pinned (OpenSpec.ofChange fnBitsWrong)

/-- 'laws.FnExactLeastAllWords': WHATEVER THE INPUT: true; the input reads as it did. -/
def fnExactLeastAllWordsSpec : ChangeSpec := { name := "fnExactLeastAllWords", fn := fun _ => fun
  | [d] => { results := [.lit (.bool true)], args := [d] }
  | _ => none }
def fnExactLeastAllWordsRow : OpenClaim := { program := "ytpppdlgmhedaeaadoor", sum := "a96ebd745ff240db08d9297d7bce7b076bf7fafdefc205016e16511f4c664fe6", func := "loop.example/g01121/laws.FnExactLeastAllWords", spec := "fnExactLeastAllWords", inPlace := ["internal/abi.NoEscape", "internal/bytealg.MakeNoZero", "internal/bytealg.IndexByteString", "internal/bytealg.IndexString"], named := ["unicode/utf8.first", "unicode/utf8.acceptRanges", "internal/bytealg.MaxLen"], apart := false, laid := [("unicode/utf8.acceptRanges", laid_unicode_utf8_acceptRanges), ("unicode/utf8.first", laid_unicode_utf8_first)] }
def FnExactLeastAllWordsSaid : Prop := fnExactLeastAllWordsRow.holds Tryd.pinned (OpenSpec.ofChange fnExactLeastAllWordsSpec)

/-- ITS FALSE NEIGHBOUR: 'it returns false'. Refute it at one input. -/
def fnExactLeastAllWordsWrong : ChangeSpec := { name := "fnExactLeastAllWords", fn := fun _ => fun
  | [d] => { results := [.lit (.bool false)], args := [d] }
  | _ => none }
def FnExactLeastAllWordsWrongFalsely : Prop := fnExactLeastAllWordsRow.holds Tryd.pinned (OpenSpec.ofChange fnExactLeastAllWordsWrong)

/-- 'laws.FnAllWords': WHATEVER THE INPUT: true; the input reads as it did. -/
def fnAllWordsSpec : ChangeSpec := { name := "fnAllWords", fn := fun _ => fun
  | [d1, d2] => { results := [.lit (.bool true)], args := [d1, d2] }
  | _ => none }
def fnAllWordsRow : OpenClaim := { program := "ytpppdlgmhedaeaadoor", sum := "a96ebd745ff240db08d9297d7bce7b076bf7fafdefc205016e16511f4c664fe6", func := "loop.example/g01121/laws.FnAllWords", spec := "fnAllWords", inPlace := ["internal/abi.NoEscape", "internal/bytealg.MakeNoZero", "internal/bytealg.IndexByteString", "internal/bytealg.IndexString"], unfollowed := true, recurses := true, named := ["unicode/utf8.first", "unicode/utf8.acceptRanges", "internal/bytealg.MaxLen"], apart := false, laid := [("unicode/utf8.acceptRanges", laid_unicode_utf8_acceptRanges), ("unicode/utf8.first", laid_unicode_utf8_first)] }
def FnAllWordsSaid : Prop := fnAllWordsRow.holds Tryd.pinned (OpenSpec.ofChange fnAllWordsSpec)

/-- ITS FALSE NEIGHBOUR: 'it returns false'. Refute it at one input. -/
def fnAllWordsWrong : ChangeSpec := { name := "fnAllWords", fn := fun _ => fun
  | [d1, d2] => { results := [.lit (.bool false)], args := [d1, d2] }
  | _ => none }
def FnAllWordsWrongFalsely : Prop := fnAllWordsRow.holds Tryd.pinned (OpenSpec.ofChange fnAllWordsWrong)

/- THE SECOND FORM. 'bulk': how many values and letters a reading holds, each counted each time it is reached (what is shared counts as often as it is met; a slice's spare places count too). A statement '..UptoSaid' is the law's where the arguments, and the package variables that the reading takes, are together of bulk at most 1048576: NARROWER than '..Said'. Prove '..Said' where nothing that the law and all that it calls make is longer than what came in: it says more and counts as full. Else prove '..UptoSaid'. A law counts once. -/
mutual
def uptoBulk {H : Type} : DataW H → Nat
  | .lit (.string bytes) => bytes.length + 1
  | .lit _ => 1
  | .nil => 1
  | .ptr d => uptoBulk d + 1
  | .slice elems spare => uptoBulkAll elems + uptoBulkAll spare + 1
  | .agg parts => uptoBulkAll parts + 1
  | .iface _ d => uptoBulk d + 1
  | .map entries => uptoBulkEntries entries + 1
  | .held _ => 1
def uptoBulkAll {H : Type} : List (DataW H) → Nat
  | [] => 0
  | d :: r => uptoBulk d + uptoBulkAll r
def uptoBulkEntries {H : Type} : List (Lit × DataW H) → Nat
  | [] => 0
  | x :: r => uptoBulkEntry x + uptoBulkEntries r
def uptoBulkEntry {H : Type} : Lit × DataW H → Nat
  | (.string bytes, d) => bytes.length + uptoBulk d + 1
  | (_, d) => uptoBulk d + 1
 end
def uptoSmall : (H : Type) → List (DataW H) → Bool := fun _ ds => decide (uptoBulkAll ds ≤ 1048576)
def OpenSpec.upto (s : _root_.Go.ChangeSpec) : _root_.Go.OpenSpec := { _root_.Go.OpenSpec.ofChange s with cond := some uptoSmall }

/-- 'laws.FnExactDecimal', WHERE WHAT IT READS IS OF BULK AT MOST 1048576: true; the input reads as it did. -/
def fnExactDecimalUptoRow : OpenClaim := { program := "ytpppdlgmhedaeaadoor", sum := "a96ebd745ff240db08d9297d7bce7b076bf7fafdefc205016e16511f4c664fe6", func := "loop.example/g01121/laws.FnExactDecimal", spec := "fnExactDecimal", named := ["internal/strconv.uint64pow10", "math/bits.deBruijn32tab", "math/bits.deBruijn64tab"], apart := false, laid := [("math/bits.deBruijn32tab", laid_math_bits_deBruijn32tab), ("math/bits.deBruijn64tab", laid_math_bits_deBruijn64tab), ("internal/strconv.uint64pow10", laid_internal_strconv_uint64pow10)], narrowed := true }
def FnExactDecimalUptoSaid : Prop := fnExactDecimalUptoRow.holds Tryd.pinned (OpenSpec.upto fnExactDecimalSpec)

/-- 'laws.FnExactIsBits', WHERE WHAT IT READS IS OF BULK AT MOST 1048576: true; the input reads as it did. -/
def fnExactIsBitsUptoRow : OpenClaim := { program := "ytpppdlgmhedaeaadoor", sum := "a96ebd745ff240db08d9297d7bce7b076bf7fafdefc205016e16511f4c664fe6", func := "loop.example/g01121/laws.FnExactIsBits", spec := "fnExactIsBits", inPlace := ["internal/bytealg.IndexByteString", "internal/bytealg.IndexString"], named := ["unicode/utf8.first", "unicode/utf8.acceptRanges", "internal/bytealg.MaxLen"], apart := false, laid := [("unicode/utf8.acceptRanges", laid_unicode_utf8_acceptRanges), ("unicode/utf8.first", laid_unicode_utf8_first)], narrowed := true }
def FnExactIsBitsUptoSaid : Prop := fnExactIsBitsUptoRow.holds Tryd.pinned (OpenSpec.upto fnExactIsBitsSpec)

/-- 'laws.FnExactTakeEvery', WHERE WHAT IT READS IS OF BULK AT MOST 1048576: true; the input reads as it did. -/
def fnExactTakeEveryUptoRow : OpenClaim := { program := "ytpppdlgmhedaeaadoor", sum := "a96ebd745ff240db08d9297d7bce7b076bf7fafdefc205016e16511f4c664fe6", func := "loop.example/g01121/laws.FnExactTakeEvery", spec := "fnExactTakeEvery", inPlace := ["internal/bytealg.IndexByteString", "internal/bytealg.IndexString"], named := ["unicode/utf8.first", "unicode/utf8.acceptRanges", "internal/bytealg.MaxLen"], apart := false, laid := [("unicode/utf8.acceptRanges", laid_unicode_utf8_acceptRanges), ("unicode/utf8.first", laid_unicode_utf8_first)], narrowed := true }
def FnExactTakeEveryUptoSaid : Prop := fnExactTakeEveryUptoRow.holds Tryd.pinned (OpenSpec.upto fnExactTakeEverySpec)

/-- 'laws.FnExactXorBits', WHERE WHAT IT READS IS OF BULK AT MOST 1048576: true; the input reads as it did. -/
def fnExactXorBitsUptoRow : OpenClaim := { program := "ytpppdlgmhedaeaadoor", sum := "a96ebd745ff240db08d9297d7bce7b076bf7fafdefc205016e16511f4c664fe6", func := "loop.example/g01121/laws.FnExactXorBits", spec := "fnExactXorBits", inPlace := ["internal/bytealg.IndexByteString", "internal/bytealg.IndexString"], named := ["unicode/utf8.first", "unicode/utf8.acceptRanges", "internal/bytealg.MaxLen"], apart := false, laid := [("unicode/utf8.acceptRanges", laid_unicode_utf8_acceptRanges), ("unicode/utf8.first", laid_unicode_utf8_first)], narrowed := true }
def FnExactXorBitsUptoSaid : Prop := fnExactXorBitsUptoRow.holds Tryd.pinned (OpenSpec.upto fnExactXorBitsSpec)

/-- 'laws.FnExactNumberOfBits', WHERE WHAT IT READS IS OF BULK AT MOST 1048576: true; the input reads as it did. -/
def fnExactNumberOfBitsUptoRow : OpenClaim := { program := "ytpppdlgmhedaeaadoor", sum := "a96ebd745ff240db08d9297d7bce7b076bf7fafdefc205016e16511f4c664fe6", func := "loop.example/g01121/laws.FnExactNumberOfBits", spec := "fnExactNumberOfBits", inPlace := ["internal/bytealg.IndexByteString", "internal/bytealg.IndexString"], named := ["unicode/utf8.first", "unicode/utf8.acceptRanges", "internal/bytealg.MaxLen"], apart := false, laid := [("unicode/utf8.acceptRanges", laid_unicode_utf8_acceptRanges), ("unicode/utf8.first", laid_unicode_utf8_first)], narrowed := true }
def FnExactNumberOfBitsUptoSaid : Prop := fnExactNumberOfBitsUptoRow.holds Tryd.pinned (OpenSpec.upto fnExactNumberOfBitsSpec)

/-- 'laws.FnExactIsAllWords', WHERE WHAT IT READS IS OF BULK AT MOST 1048576: true; the input reads as it did. -/
def fnExactIsAllWordsUptoRow : OpenClaim := { program := "ytpppdlgmhedaeaadoor", sum := "a96ebd745ff240db08d9297d7bce7b076bf7fafdefc205016e16511f4c664fe6", func := "loop.example/g01121/laws.FnExactIsAllWords", spec := "fnExactIsAllWords", inPlace := ["internal/bytealg.IndexByteString", "internal/bytealg.IndexString"], named := ["unicode/utf8.first", "unicode/utf8.acceptRanges", "internal/bytealg.MaxLen"], apart := false, laid := [("unicode/utf8.acceptRanges", laid_unicode_utf8_acceptRanges), ("unicode/utf8.first", laid_unicode_utf8_first)], narrowed := true }
def FnExactIsAllWordsUptoSaid : Prop := fnExactIsAllWordsUptoRow.holds Tryd.pinned (OpenSpec.upto fnExactIsAllWordsSpec)

/-- 'laws.FnExactRunLengths', WHERE WHAT IT READS IS OF BULK AT MOST 1048576: true; the input reads as it did. -/
def fnExactRunLengthsUptoRow : OpenClaim := { program := "ytpppdlgmhedaeaadoor", sum := "a96ebd745ff240db08d9297d7bce7b076bf7fafdefc205016e16511f4c664fe6", func := "loop.example/g01121/laws.FnExactRunLengths", spec := "fnExactRunLengths", inPlace := ["internal/bytealg.IndexByteString", "internal/bytealg.IndexString"], named := ["unicode/utf8.first", "unicode/utf8.acceptRanges", "internal/bytealg.MaxLen"], apart := false, laid := [("unicode/utf8.acceptRanges", laid_unicode_utf8_acceptRanges), ("unicode/utf8.first", laid_unicode_utf8_first)], narrowed := true }
def FnExactRunLengthsUptoSaid : Prop := fnExactRunLengthsUptoRow.holds Tryd.pinned (OpenSpec.upto fnExactRunLengthsSpec)

/-- 'laws.FnExactAgreementsOf', WHERE WHAT IT READS IS OF BULK AT MOST 1048576: true; the input reads as it did. -/
def fnExactAgreementsOfUptoRow : OpenClaim := { program := "ytpppdlgmhedaeaadoor", sum := "a96ebd745ff240db08d9297d7bce7b076bf7fafdefc205016e16511f4c664fe6", func := "loop.example/g01121/laws.FnExactAgreementsOf", spec := "fnExactAgreementsOf", inPlace := ["internal/bytealg.IndexByteString", "internal/bytealg.IndexString"], named := ["unicode/utf8.first", "unicode/utf8.acceptRanges", "internal/bytealg.MaxLen"], apart := false, laid := [("unicode/utf8.acceptRanges", laid_unicode_utf8_acceptRanges), ("unicode/utf8.first", laid_unicode_utf8_first)], narrowed := true }
def FnExactAgreementsOfUptoSaid : Prop := fnExactAgreementsOfUptoRow.holds Tryd.pinned (OpenSpec.upto fnExactAgreementsOfSpec)

/-- 'laws.FnExactOnesOf', WHERE WHAT IT READS IS OF BULK AT MOST 1048576: true; the input reads as it did. -/
def fnExactOnesOfUptoRow : OpenClaim := { program := "ytpppdlgmhedaeaadoor", sum := "a96ebd745ff240db08d9297d7bce7b076bf7fafdefc205016e16511f4c664fe6", func := "loop.example/g01121/laws.FnExactOnesOf", spec := "fnExactOnesOf", inPlace := ["internal/bytealg.IndexByteString", "internal/bytealg.IndexString", "internal/bytealg.CountString"], named := ["unicode/utf8.first", "unicode/utf8.acceptRanges", "internal/bytealg.MaxLen"], apart := false, laid := [("unicode/utf8.acceptRanges", laid_unicode_utf8_acceptRanges), ("unicode/utf8.first", laid_unicode_utf8_first)], narrowed := true }
def FnExactOnesOfUptoSaid : Prop := fnExactOnesOfUptoRow.holds Tryd.pinned (OpenSpec.upto fnExactOnesOfSpec)

/-- 'laws.FnBits', WHERE WHAT IT READS IS OF BULK AT MOST 1048576: true; the input reads as it did. -/
def fnBitsUptoRow : OpenClaim := { program := "ytpppdlgmhedaeaadoor", sum := "a96ebd745ff240db08d9297d7bce7b076bf7fafdefc205016e16511f4c664fe6", func := "loop.example/g01121/laws.FnBits", spec := "fnBits", inPlace := ["internal/bytealg.IndexByteString", "internal/bytealg.IndexString", "internal/bytealg.CountString"], named := ["unicode/utf8.first", "unicode/utf8.acceptRanges", "internal/bytealg.MaxLen"], apart := false, laid := [("unicode/utf8.acceptRanges", laid_unicode_utf8_acceptRanges), ("unicode/utf8.first", laid_unicode_utf8_first)], narrowed := true }
def FnBitsUptoSaid : Prop := fnBitsUptoRow.holds Tryd.pinned (OpenSpec.upto fnBitsSpec)

/-- 'laws.FnExactLeastAllWords', WHERE WHAT IT READS IS OF BULK AT MOST 1048576: true; the input reads as it did. -/
def fnExactLeastAllWordsUptoRow : OpenClaim := { program := "ytpppdlgmhedaeaadoor", sum := "a96ebd745ff240db08d9297d7bce7b076bf7fafdefc205016e16511f4c664fe6", func := "loop.example/g01121/laws.FnExactLeastAllWords", spec := "fnExactLeastAllWords", inPlace := ["internal/abi.NoEscape", "internal/bytealg.MakeNoZero", "internal/bytealg.IndexByteString", "internal/bytealg.IndexString"], named := ["unicode/utf8.first", "unicode/utf8.acceptRanges", "internal/bytealg.MaxLen"], apart := false, laid := [("unicode/utf8.acceptRanges", laid_unicode_utf8_acceptRanges), ("unicode/utf8.first", laid_unicode_utf8_first)], narrowed := true }
def FnExactLeastAllWordsUptoSaid : Prop := fnExactLeastAllWordsUptoRow.holds Tryd.pinned (OpenSpec.upto fnExactLeastAllWordsSpec)

/-- 'laws.FnAllWords', WHERE WHAT IT READS IS OF BULK AT MOST 1048576: true; the input reads as it did. -/
def fnAllWordsUptoRow : OpenClaim := { program := "ytpppdlgmhedaeaadoor", sum := "a96ebd745ff240db08d9297d7bce7b076bf7fafdefc205016e16511f4c664fe6", func := "loop.example/g01121/laws.FnAllWords", spec := "fnAllWords", inPlace := ["internal/abi.NoEscape", "internal/bytealg.MakeNoZero", "internal/bytealg.IndexByteString", "internal/bytealg.IndexString"], unfollowed := true, recurses := true, named := ["unicode/utf8.first", "unicode/utf8.acceptRanges", "internal/bytealg.MaxLen"], apart := false, laid := [("unicode/utf8.acceptRanges", laid_unicode_utf8_acceptRanges), ("unicode/utf8.first", laid_unicode_utf8_first)], narrowed := true }
def FnAllWordsUptoSaid : Prop := fnAllWordsUptoRow.holds Tryd.pinned (OpenSpec.upto fnAllWordsSpec)

end Rows
end Go.Proofs.YtpppdlgmhedaeaaDoor
