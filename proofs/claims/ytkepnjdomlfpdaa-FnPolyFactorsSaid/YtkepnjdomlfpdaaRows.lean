/-
  No cell of these rows narrows 'for every input' (looked for: loops, veiled, ifaces, maps, wideKeys, modest, calm, conditions, laid).
  DERIVED. THE GIVEN ROWS OF THIS SEAT. 10 by the template 'for every input the law returns true; each argument reads behind the call as it read before'; 0 by the template 'total and deterministic' (their statements: YtkepnjdomlfpdaaTotals.lean).
  GIVEN WITH THE SEED: the statements are not yours to turn. If you find one false, say at which input.
  Laid BY PROGRAM, IN A SANDBOX (cutbox-rows.mjs): the forced cells as the released guide's own fill.sh prints them over the translation 7049fda6181ffc71… (all of the seat's roots in one cut). By AI agents, Wed Nov 11 2026. No macro, syntax, notation, axiom, sorry.
-/
import Derived.Test.YtkepnjdomlfpdaaChecked
import GoSem.Claim
import GoSem.ClaimJoined
import GoSem.ClaimMapViews
import Derived.JoinedTies
import Derived.KernelRfl
namespace Go.Proofs.Ytkepnjdomlfpdaa
/- THE CELL 'sum', in the pinned program and in every row, IS THE sha256 OF THE DUMP (.gsa) THAT YtkepnjdomlfpdaaProg.lean LOADS. Nothing in Lean hashes anything: it is a label: what it is worth is what the hold of that sum in a sandbox is worth. -/
noncomputable def Try.pinned : Pinned := { name := "ytkepnjdomlfpdaa", sum := "7049fda6181ffc7180b053767b0fe270b3507e4c6e772b68515bc13530653548", checked := Try.checked }
namespace Rows
def none {H : Type} : Left H := { results := [], args := [] }

/-- 'laws.FnExactMulPolys': WHATEVER THE INPUT: true; the input reads as it did. -/
def fnExactMulPolysSpec : ChangeSpec := { name := "fnExactMulPolys", fn := fun _ => fun
  | [d1, d2] => { results := [.lit (.bool true)], args := [d1, d2] }
  | _ => none }
def fnExactMulPolysRow : OpenClaim := { program := "ytkepnjdomlfpdaa", sum := "7049fda6181ffc7180b053767b0fe270b3507e4c6e772b68515bc13530653548", func := "loop.example/g01121/laws.FnExactMulPolys", spec := "fnExactMulPolys", unfollowed := true, recurses := true, apart := false }
def FnExactMulPolysSaid : Prop := fnExactMulPolysRow.holds Try.pinned (OpenSpec.ofChange fnExactMulPolysSpec)

/-- ITS FALSE NEIGHBOUR: 'it returns false'. Refute it at one input. -/
def fnExactMulPolysWrong : ChangeSpec := { name := "fnExactMulPolys", fn := fun _ => fun
  | [d1, d2] => { results := [.lit (.bool false)], args := [d1, d2] }
  | _ => none }
def FnExactMulPolysWrongFalsely : Prop := fnExactMulPolysRow.holds Try.pinned (OpenSpec.ofChange fnExactMulPolysWrong)

/-- 'laws.FnExactIsPrimitive': WHATEVER THE INPUT: true; the input reads as it did. -/
def fnExactIsPrimitiveSpec : ChangeSpec := { name := "fnExactIsPrimitive", fn := fun _ => fun
  | [d] => { results := [.lit (.bool true)], args := [d] }
  | _ => none }
def fnExactIsPrimitiveRow : OpenClaim := { program := "ytkepnjdomlfpdaa", sum := "7049fda6181ffc7180b053767b0fe270b3507e4c6e772b68515bc13530653548", func := "loop.example/g01121/laws.FnExactIsPrimitive", spec := "fnExactIsPrimitive", apart := false }
def FnExactIsPrimitiveSaid : Prop := fnExactIsPrimitiveRow.holds Try.pinned (OpenSpec.ofChange fnExactIsPrimitiveSpec)

/-- ITS FALSE NEIGHBOUR: 'it returns false'. Refute it at one input. -/
def fnExactIsPrimitiveWrong : ChangeSpec := { name := "fnExactIsPrimitive", fn := fun _ => fun
  | [d] => { results := [.lit (.bool false)], args := [d] }
  | _ => none }
def FnExactIsPrimitiveWrongFalsely : Prop := fnExactIsPrimitiveRow.holds Try.pinned (OpenSpec.ofChange fnExactIsPrimitiveWrong)

/-- 'laws.FnExactDividePolys': WHATEVER THE INPUT: true; the input reads as it did. -/
def fnExactDividePolysSpec : ChangeSpec := { name := "fnExactDividePolys", fn := fun _ => fun
  | [d1, d2] => { results := [.lit (.bool true)], args := [d1, d2] }
  | _ => none }
def fnExactDividePolysRow : OpenClaim := { program := "ytkepnjdomlfpdaa", sum := "7049fda6181ffc7180b053767b0fe270b3507e4c6e772b68515bc13530653548", func := "loop.example/g01121/laws.FnExactDividePolys", spec := "fnExactDividePolys", unfollowed := true, recurses := true, apart := false }
def FnExactDividePolysSaid : Prop := fnExactDividePolysRow.holds Try.pinned (OpenSpec.ofChange fnExactDividePolysSpec)

/-- ITS FALSE NEIGHBOUR: 'it returns false'. Refute it at one input. -/
def fnExactDividePolysWrong : ChangeSpec := { name := "fnExactDividePolys", fn := fun _ => fun
  | [d1, d2] => { results := [.lit (.bool false)], args := [d1, d2] }
  | _ => none }
def FnExactDividePolysWrongFalsely : Prop := fnExactDividePolysRow.holds Try.pinned (OpenSpec.ofChange fnExactDividePolysWrong)

/-- 'laws.FnExactOrderOfX': WHATEVER THE INPUT: true; the input reads as it did. -/
def fnExactOrderOfXSpec : ChangeSpec := { name := "fnExactOrderOfX", fn := fun _ => fun
  | [d] => { results := [.lit (.bool true)], args := [d] }
  | _ => none }
def fnExactOrderOfXRow : OpenClaim := { program := "ytkepnjdomlfpdaa", sum := "7049fda6181ffc7180b053767b0fe270b3507e4c6e772b68515bc13530653548", func := "loop.example/g01121/laws.FnExactOrderOfX", spec := "fnExactOrderOfX", apart := false }
def FnExactOrderOfXSaid : Prop := fnExactOrderOfXRow.holds Try.pinned (OpenSpec.ofChange fnExactOrderOfXSpec)

/-- ITS FALSE NEIGHBOUR: 'it returns false'. Refute it at one input. -/
def fnExactOrderOfXWrong : ChangeSpec := { name := "fnExactOrderOfX", fn := fun _ => fun
  | [d] => { results := [.lit (.bool false)], args := [d] }
  | _ => none }
def FnExactOrderOfXWrongFalsely : Prop := fnExactOrderOfXRow.holds Try.pinned (OpenSpec.ofChange fnExactOrderOfXWrong)

/-- 'laws.FnExactStepRegister': WHATEVER THE INPUT: true; the input reads as it did. -/
def fnExactStepRegisterSpec : ChangeSpec := { name := "fnExactStepRegister", fn := fun _ => fun
  | [d1, d2] => { results := [.lit (.bool true)], args := [d1, d2] }
  | _ => none }
def fnExactStepRegisterRow : OpenClaim := { program := "ytkepnjdomlfpdaa", sum := "7049fda6181ffc7180b053767b0fe270b3507e4c6e772b68515bc13530653548", func := "loop.example/g01121/laws.FnExactStepRegister", spec := "fnExactStepRegister", apart := false }
def FnExactStepRegisterSaid : Prop := fnExactStepRegisterRow.holds Try.pinned (OpenSpec.ofChange fnExactStepRegisterSpec)

/-- ITS FALSE NEIGHBOUR: 'it returns false'. Refute it at one input. -/
def fnExactStepRegisterWrong : ChangeSpec := { name := "fnExactStepRegister", fn := fun _ => fun
  | [d1, d2] => { results := [.lit (.bool false)], args := [d1, d2] }
  | _ => none }
def FnExactStepRegisterWrongFalsely : Prop := fnExactStepRegisterRow.holds Try.pinned (OpenSpec.ofChange fnExactStepRegisterWrong)

/-- 'laws.FnExactGcdPolys': WHATEVER THE INPUT: true; the input reads as it did. -/
def fnExactGcdPolysSpec : ChangeSpec := { name := "fnExactGcdPolys", fn := fun _ => fun
  | [d1, d2] => { results := [.lit (.bool true)], args := [d1, d2] }
  | _ => none }
def fnExactGcdPolysRow : OpenClaim := { program := "ytkepnjdomlfpdaa", sum := "7049fda6181ffc7180b053767b0fe270b3507e4c6e772b68515bc13530653548", func := "loop.example/g01121/laws.FnExactGcdPolys", spec := "fnExactGcdPolys", unfollowed := true, recurses := true, apart := false }
def FnExactGcdPolysSaid : Prop := fnExactGcdPolysRow.holds Try.pinned (OpenSpec.ofChange fnExactGcdPolysSpec)

/-- ITS FALSE NEIGHBOUR: 'it returns false'. Refute it at one input. -/
def fnExactGcdPolysWrong : ChangeSpec := { name := "fnExactGcdPolys", fn := fun _ => fun
  | [d1, d2] => { results := [.lit (.bool false)], args := [d1, d2] }
  | _ => none }
def FnExactGcdPolysWrongFalsely : Prop := fnExactGcdPolysRow.holds Try.pinned (OpenSpec.ofChange fnExactGcdPolysWrong)

/-- 'laws.FnExactFactorsOf': WHATEVER THE INPUT: true; the input reads as it did. -/
def fnExactFactorsOfSpec : ChangeSpec := { name := "fnExactFactorsOf", fn := fun _ => fun
  | [d] => { results := [.lit (.bool true)], args := [d] }
  | _ => none }
def fnExactFactorsOfRow : OpenClaim := { program := "ytkepnjdomlfpdaa", sum := "7049fda6181ffc7180b053767b0fe270b3507e4c6e772b68515bc13530653548", func := "loop.example/g01121/laws.FnExactFactorsOf", spec := "fnExactFactorsOf", apart := false }
def FnExactFactorsOfSaid : Prop := fnExactFactorsOfRow.holds Try.pinned (OpenSpec.ofChange fnExactFactorsOfSpec)

/-- ITS FALSE NEIGHBOUR: 'it returns false'. Refute it at one input. -/
def fnExactFactorsOfWrong : ChangeSpec := { name := "fnExactFactorsOf", fn := fun _ => fun
  | [d] => { results := [.lit (.bool false)], args := [d] }
  | _ => none }
def FnExactFactorsOfWrongFalsely : Prop := fnExactFactorsOfRow.holds Try.pinned (OpenSpec.ofChange fnExactFactorsOfWrong)

/-- 'laws.FnExactPowerOfX': WHATEVER THE INPUT: true; the input reads as it did. -/
def fnExactPowerOfXSpec : ChangeSpec := { name := "fnExactPowerOfX", fn := fun _ => fun
  | [d1, d2] => { results := [.lit (.bool true)], args := [d1, d2] }
  | _ => none }
def fnExactPowerOfXRow : OpenClaim := { program := "ytkepnjdomlfpdaa", sum := "7049fda6181ffc7180b053767b0fe270b3507e4c6e772b68515bc13530653548", func := "loop.example/g01121/laws.FnExactPowerOfX", spec := "fnExactPowerOfX", unfollowed := true, recurses := true, apart := false }
def FnExactPowerOfXSaid : Prop := fnExactPowerOfXRow.holds Try.pinned (OpenSpec.ofChange fnExactPowerOfXSpec)

/-- ITS FALSE NEIGHBOUR: 'it returns false'. Refute it at one input. -/
def fnExactPowerOfXWrong : ChangeSpec := { name := "fnExactPowerOfX", fn := fun _ => fun
  | [d1, d2] => { results := [.lit (.bool false)], args := [d1, d2] }
  | _ => none }
def FnExactPowerOfXWrongFalsely : Prop := fnExactPowerOfXRow.holds Try.pinned (OpenSpec.ofChange fnExactPowerOfXWrong)

/-- 'laws.FnPowers': WHATEVER THE INPUT: true; the input reads as it did. -/
def fnPowersSpec : ChangeSpec := { name := "fnPowers", fn := fun _ => fun
  | [d1, d2] => { results := [.lit (.bool true)], args := [d1, d2] }
  | _ => none }
def fnPowersRow : OpenClaim := { program := "ytkepnjdomlfpdaa", sum := "7049fda6181ffc7180b053767b0fe270b3507e4c6e772b68515bc13530653548", func := "loop.example/g01121/laws.FnPowers", spec := "fnPowers", unfollowed := true, recurses := true, apart := false }
def FnPowersSaid : Prop := fnPowersRow.holds Try.pinned (OpenSpec.ofChange fnPowersSpec)

/-- ITS FALSE NEIGHBOUR: 'it returns false'. Refute it at one input. -/
def fnPowersWrong : ChangeSpec := { name := "fnPowers", fn := fun _ => fun
  | [d1, d2] => { results := [.lit (.bool false)], args := [d1, d2] }
  | _ => none }
def FnPowersWrongFalsely : Prop := fnPowersRow.holds Try.pinned (OpenSpec.ofChange fnPowersWrong)

/-- 'laws.FnPolyFactors': WHATEVER THE INPUT: true; the input reads as it did. -/
def fnPolyFactorsSpec : ChangeSpec := { name := "fnPolyFactors", fn := fun _ => fun
  | [d1, d2] => { results := [.lit (.bool true)], args := [d1, d2] }
  | _ => none }
def fnPolyFactorsRow : OpenClaim := { program := "ytkepnjdomlfpdaa", sum := "7049fda6181ffc7180b053767b0fe270b3507e4c6e772b68515bc13530653548", func := "loop.example/g01121/laws.FnPolyFactors", spec := "fnPolyFactors", unfollowed := true, recurses := true, apart := false }
def FnPolyFactorsSaid : Prop := fnPolyFactorsRow.holds Try.pinned (OpenSpec.ofChange fnPolyFactorsSpec)

/-- ITS FALSE NEIGHBOUR: 'it returns false'. Refute it at one input. -/
def fnPolyFactorsWrong : ChangeSpec := { name := "fnPolyFactors", fn := fun _ => fun
  | [d1, d2] => { results := [.lit (.bool false)], args := [d1, d2] }
  | _ => none }
def FnPolyFactorsWrongFalsely : Prop := fnPolyFactorsRow.holds Try.pinned (OpenSpec.ofChange fnPolyFactorsWrong)

/- THE SECOND FORM. 'bulk': how many values and letters a reading holds, each counted each time it is reached (what is shared counts as often as it is met; a slice's spare places count too). A statement '..UptoSaid' is the law's where the arguments, and the package variables that the reading takes, are together of bulk at most 1048576: NARROWER than '..Said'. Prove '..Said' where nothing that the law and all that it calls make is longer than what came in: it says more and counts as full. Else prove '..UptoSaid'. A law counts once. -/
mutual
def uptoBulk {H : Type} : DataW H → Nat
  | .lit (.string bytes) => bytes.length + 1
  | .lit _ => 1
  | .nil => 1
  | .ptr d => uptoBulk d + 1
  | .slice elems spare => uptoBulkAll elems + uptoBulkAll spare + 1
  | .agg parts => uptoBulkAll parts + 1
  | .iface _ d => uptoBulk d + 1
  | .map entries => uptoBulkEntries entries + 1
  | .held _ => 1
def uptoBulkAll {H : Type} : List (DataW H) → Nat
  | [] => 0
  | d :: r => uptoBulk d + uptoBulkAll r
def uptoBulkEntries {H : Type} : List (Lit × DataW H) → Nat
  | [] => 0
  | x :: r => uptoBulkEntry x + uptoBulkEntries r
def uptoBulkEntry {H : Type} : Lit × DataW H → Nat
  | (.string bytes, d) => bytes.length + uptoBulk d + 1
  | (_, d) => uptoBulk d + 1
 end
def uptoSmall : (H : Type) → List (DataW H) → Bool := fun _ ds => decide (uptoBulkAll ds ≤ 1048576)
def OpenSpec.upto (s : _root_.Go.ChangeSpec) : _root_.Go.OpenSpec := { _root_.Go.OpenSpec.ofChange s with cond := some uptoSmall }

/-- 'laws.FnExactMulPolys', WHERE WHAT IT READS IS OF BULK AT MOST 1048576: true; the input reads as it did. -/
def fnExactMulPolysUptoRow : OpenClaim := { program := "ytkepnjdomlfpdaa", sum := "7049fda6181ffc7180b053767b0fe270b3507e4c6e772b68515bc13530653548", func := "loop.example/g01121/laws.FnExactMulPolys", spec := "fnExactMulPolys", unfollowed := true, recurses := true, apart := false, narrowed := true }
def FnExactMulPolysUptoSaid : Prop := fnExactMulPolysUptoRow.holds Try.pinned (OpenSpec.upto fnExactMulPolysSpec)

/-- 'laws.FnExactIsPrimitive', WHERE WHAT IT READS IS OF BULK AT MOST 1048576: true; the input reads as it did. -/
def fnExactIsPrimitiveUptoRow : OpenClaim := { program := "ytkepnjdomlfpdaa", sum := "7049fda6181ffc7180b053767b0fe270b3507e4c6e772b68515bc13530653548", func := "loop.example/g01121/laws.FnExactIsPrimitive", spec := "fnExactIsPrimitive", apart := false, narrowed := true }
def FnExactIsPrimitiveUptoSaid : Prop := fnExactIsPrimitiveUptoRow.holds Try.pinned (OpenSpec.upto fnExactIsPrimitiveSpec)

/-- 'laws.FnExactDividePolys', WHERE WHAT IT READS IS OF BULK AT MOST 1048576: true; the input reads as it did. -/
def fnExactDividePolysUptoRow : OpenClaim := { program := "ytkepnjdomlfpdaa", sum := "7049fda6181ffc7180b053767b0fe270b3507e4c6e772b68515bc13530653548", func := "loop.example/g01121/laws.FnExactDividePolys", spec := "fnExactDividePolys", unfollowed := true, recurses := true, apart := false, narrowed := true }
def FnExactDividePolysUptoSaid : Prop := fnExactDividePolysUptoRow.holds Try.pinned (OpenSpec.upto fnExactDividePolysSpec)

/-- 'laws.FnExactOrderOfX', WHERE WHAT IT READS IS OF BULK AT MOST 1048576: true; the input reads as it did. -/
def fnExactOrderOfXUptoRow : OpenClaim := { program := "ytkepnjdomlfpdaa", sum := "7049fda6181ffc7180b053767b0fe270b3507e4c6e772b68515bc13530653548", func := "loop.example/g01121/laws.FnExactOrderOfX", spec := "fnExactOrderOfX", apart := false, narrowed := true }
def FnExactOrderOfXUptoSaid : Prop := fnExactOrderOfXUptoRow.holds Try.pinned (OpenSpec.upto fnExactOrderOfXSpec)

/-- 'laws.FnExactStepRegister', WHERE WHAT IT READS IS OF BULK AT MOST 1048576: true; the input reads as it did. -/
def fnExactStepRegisterUptoRow : OpenClaim := { program := "ytkepnjdomlfpdaa", sum := "7049fda6181ffc7180b053767b0fe270b3507e4c6e772b68515bc13530653548", func := "loop.example/g01121/laws.FnExactStepRegister", spec := "fnExactStepRegister", apart := false, narrowed := true }
def FnExactStepRegisterUptoSaid : Prop := fnExactStepRegisterUptoRow.holds Try.pinned (OpenSpec.upto fnExactStepRegisterSpec)

/-- 'laws.FnExactGcdPolys', WHERE WHAT IT READS IS OF BULK AT MOST 1048576: true; the input reads as it did. -/
def fnExactGcdPolysUptoRow : OpenClaim := { program := "ytkepnjdomlfpdaa", sum := "7049fda6181ffc7180b053767b0fe270b3507e4c6e772b68515bc13530653548", func := "loop.example/g01121/laws.FnExactGcdPolys", spec := "fnExactGcdPolys", unfollowed := true, recurses := true, apart := false, narrowed := true }
def FnExactGcdPolysUptoSaid : Prop := fnExactGcdPolysUptoRow.holds Try.pinned (OpenSpec.upto fnExactGcdPolysSpec)

/-- 'laws.FnExactFactorsOf', WHERE WHAT IT READS IS OF BULK AT MOST 1048576: true; the input reads as it did. -/
def fnExactFactorsOfUptoRow : OpenClaim := { program := "ytkepnjdomlfpdaa", sum := "7049fda6181ffc7180b053767b0fe270b3507e4c6e772b68515bc13530653548", func := "loop.example/g01121/laws.FnExactFactorsOf", spec := "fnExactFactorsOf", apart := false, narrowed := true }
def FnExactFactorsOfUptoSaid : Prop := fnExactFactorsOfUptoRow.holds Try.pinned (OpenSpec.upto fnExactFactorsOfSpec)

/-- 'laws.FnExactPowerOfX', WHERE WHAT IT READS IS OF BULK AT MOST 1048576: true; the input reads as it did. -/
def fnExactPowerOfXUptoRow : OpenClaim := { program := "ytkepnjdomlfpdaa", sum := "7049fda6181ffc7180b053767b0fe270b3507e4c6e772b68515bc13530653548", func := "loop.example/g01121/laws.FnExactPowerOfX", spec := "fnExactPowerOfX", unfollowed := true, recurses := true, apart := false, narrowed := true }
def FnExactPowerOfXUptoSaid : Prop := fnExactPowerOfXUptoRow.holds Try.pinned (OpenSpec.upto fnExactPowerOfXSpec)

/-- 'laws.FnPowers', WHERE WHAT IT READS IS OF BULK AT MOST 1048576: true; the input reads as it did. -/
def fnPowersUptoRow : OpenClaim := { program := "ytkepnjdomlfpdaa", sum := "7049fda6181ffc7180b053767b0fe270b3507e4c6e772b68515bc13530653548", func := "loop.example/g01121/laws.FnPowers", spec := "fnPowers", unfollowed := true, recurses := true, apart := false, narrowed := true }
def FnPowersUptoSaid : Prop := fnPowersUptoRow.holds Try.pinned (OpenSpec.upto fnPowersSpec)

/-- 'laws.FnPolyFactors', WHERE WHAT IT READS IS OF BULK AT MOST 1048576: true; the input reads as it did. -/
def fnPolyFactorsUptoRow : OpenClaim := { program := "ytkepnjdomlfpdaa", sum := "7049fda6181ffc7180b053767b0fe270b3507e4c6e772b68515bc13530653548", func := "loop.example/g01121/laws.FnPolyFactors", spec := "fnPolyFactors", unfollowed := true, recurses := true, apart := false, narrowed := true }
def FnPolyFactorsUptoSaid : Prop := fnPolyFactorsUptoRow.holds Try.pinned (OpenSpec.upto fnPolyFactorsSpec)

end Rows
end Go.Proofs.Ytkepnjdomlfpdaa
