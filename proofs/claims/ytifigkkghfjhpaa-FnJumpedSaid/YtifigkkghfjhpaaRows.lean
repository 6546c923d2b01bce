/-
  No cell of these rows narrows 'for every input' (looked for: loops, veiled, ifaces, maps, wideKeys, modest, calm, conditions, laid).
  DERIVED. THE GIVEN ROWS OF THIS SEAT. 11 by the template 'for every input the law returns true; each argument reads behind the call as it read before'; 0 by the template 'total and deterministic' (their statements: YtifigkkghfjhpaaTotals.lean).
  GIVEN WITH THE SEED: the statements are not yours to turn. If you find one false, say at which input.
  Laid BY PROGRAM, IN A SANDBOX (cutbox-rows.mjs): the forced cells as the released guide's own fill.sh prints them over the translation 12eeb11c33ba17f4… (all of the seat's roots in one cut). By AI agents, Wed Nov 11 2026. No macro, syntax, notation, axiom, sorry.
-/
import Derived.Test.YtifigkkghfjhpaaChecked
import GoSem.Claim
import GoSem.ClaimJoined
import GoSem.ClaimMapViews
import Derived.JoinedTies
import Derived.KernelRfl
namespace Go.Proofs.Ytifigkkghfjhpaa
/- THE CELL 'sum', in the pinned program and in every row, IS THE sha256 OF THE DUMP (.gsa) THAT YtifigkkghfjhpaaProg.lean LOADS. Nothing in Lean hashes anything: it is a label: what it is worth is what the hold of that sum in a sandbox is worth. -/
noncomputable def Try.pinned : Pinned := { name := "ytifigkkghfjhpaa", sum := "12eeb11c33ba17f495254f1811bf5268d5ec688446d1c1823073d7749cfee9ff", checked := Try.checked }
namespace Rows
def none {H : Type} : Left H := { results := [], args := [] }

/-- 'laws.FnExactParityOf': WHATEVER THE INPUT: true; the input reads as it did. -/
def fnExactParityOfSpec : ChangeSpec := { name := "fnExactParityOf", fn := fun _ => fun
  | [d1, d2] => { results := [.lit (.bool true)], args := [d1, d2] }
  | _ => none }
def fnExactParityOfRow : OpenClaim := { program := "ytifigkkghfjhpaa", sum := "12eeb11c33ba17f495254f1811bf5268d5ec688446d1c1823073d7749cfee9ff", func := "loop.example/g01121/laws.FnExactParityOf", spec := "fnExactParityOf", apart := false }
def FnExactParityOfSaid : Prop := fnExactParityOfRow.holds Try.pinned (OpenSpec.ofChange fnExactParityOfSpec)

/-- ITS FALSE NEIGHBOUR: 'it returns false'. Refute it at one input. -/
def fnExactParityOfWrong : ChangeSpec := { name := "fnExactParityOf", fn := fun _ => fun
  | [d1, d2] => { results := [.lit (.bool false)], args := [d1, d2] }
  | _ => none }
def FnExactParityOfWrongFalsely : Prop := fnExactParityOfRow.holds Try.pinned (OpenSpec.ofChange fnExactParityOfWrong)

/-- 'laws.FnExactMakeFraction': WHATEVER THE INPUT: true; the input reads as it did. -/
def fnExactMakeFractionSpec : ChangeSpec := { name := "fnExactMakeFraction", fn := fun _ => fun
  | [d1, d2] => { results := [.lit (.bool true)], args := [d1, d2] }
  | _ => none }
def fnExactMakeFractionRow : OpenClaim := { program := "ytifigkkghfjhpaa", sum := "12eeb11c33ba17f495254f1811bf5268d5ec688446d1c1823073d7749cfee9ff", func := "loop.example/g01121/laws.FnExactMakeFraction", spec := "fnExactMakeFraction", apart := false }
def FnExactMakeFractionSaid : Prop := fnExactMakeFractionRow.holds Try.pinned (OpenSpec.ofChange fnExactMakeFractionSpec)

/-- ITS FALSE NEIGHBOUR: 'it returns false'. Refute it at one input. -/
def fnExactMakeFractionWrong : ChangeSpec := { name := "fnExactMakeFraction", fn := fun _ => fun
  | [d1, d2] => { results := [.lit (.bool false)], args := [d1, d2] }
  | _ => none }
def FnExactMakeFractionWrongFalsely : Prop := fnExactMakeFractionRow.holds Try.pinned (OpenSpec.ofChange fnExactMakeFractionWrong)

/-- 'laws.FnExactJumpState': WHATEVER THE INPUT: true; the input reads as it did. -/
def fnExactJumpStateSpec : ChangeSpec := { name := "fnExactJumpState", fn := fun _ => fun
  | [d1, d2, d3] => { results := [.lit (.bool true)], args := [d1, d2, d3] }
  | _ => none }
def fnExactJumpStateRow : OpenClaim := { program := "ytifigkkghfjhpaa", sum := "12eeb11c33ba17f495254f1811bf5268d5ec688446d1c1823073d7749cfee9ff", func := "loop.example/g01121/laws.FnExactJumpState", spec := "fnExactJumpState", apart := false }
def FnExactJumpStateSaid : Prop := fnExactJumpStateRow.holds Try.pinned (OpenSpec.ofChange fnExactJumpStateSpec)

/-- ITS FALSE NEIGHBOUR: 'it returns false'. Refute it at one input. -/
def fnExactJumpStateWrong : ChangeSpec := { name := "fnExactJumpState", fn := fun _ => fun
  | [d1, d2, d3] => { results := [.lit (.bool false)], args := [d1, d2, d3] }
  | _ => none }
def FnExactJumpStateWrongFalsely : Prop := fnExactJumpStateRow.holds Try.pinned (OpenSpec.ofChange fnExactJumpStateWrong)

/-- 'laws.FnExactBackCongruence': WHATEVER THE INPUT: true; the input reads as it did. -/
def fnExactBackCongruenceSpec : ChangeSpec := { name := "fnExactBackCongruence", fn := fun _ => fun
  | [d] => { results := [.lit (.bool true)], args := [d] }
  | _ => none }
def fnExactBackCongruenceRow : OpenClaim := { program := "ytifigkkghfjhpaa", sum := "12eeb11c33ba17f495254f1811bf5268d5ec688446d1c1823073d7749cfee9ff", func := "loop.example/g01121/laws.FnExactBackCongruence", spec := "fnExactBackCongruence", apart := false }
def FnExactBackCongruenceSaid : Prop := fnExactBackCongruenceRow.holds Try.pinned (OpenSpec.ofChange fnExactBackCongruenceSpec)

/-- ITS FALSE NEIGHBOUR: 'it returns false'. Refute it at one input. -/
def fnExactBackCongruenceWrong : ChangeSpec := { name := "fnExactBackCongruence", fn := fun _ => fun
  | [d] => { results := [.lit (.bool false)], args := [d] }
  | _ => none }
def FnExactBackCongruenceWrongFalsely : Prop := fnExactBackCongruenceRow.holds Try.pinned (OpenSpec.ofChange fnExactBackCongruenceWrong)

/-- 'laws.FnExactPowerCongruence': WHATEVER THE INPUT: true; the input reads as it did. -/
def fnExactPowerCongruenceSpec : ChangeSpec := { name := "fnExactPowerCongruence", fn := fun _ => fun
  | [d1, d2] => { results := [.lit (.bool true)], args := [d1, d2] }
  | _ => none }
def fnExactPowerCongruenceRow : OpenClaim := { program := "ytifigkkghfjhpaa", sum := "12eeb11c33ba17f495254f1811bf5268d5ec688446d1c1823073d7749cfee9ff", func := "loop.example/g01121/laws.FnExactPowerCongruence", spec := "fnExactPowerCongruence", apart := false }
def FnExactPowerCongruenceSaid : Prop := fnExactPowerCongruenceRow.holds Try.pinned (OpenSpec.ofChange fnExactPowerCongruenceSpec)

/-- ITS FALSE NEIGHBOUR: 'it returns false'. Refute it at one input. -/
def fnExactPowerCongruenceWrong : ChangeSpec := { name := "fnExactPowerCongruence", fn := fun _ => fun
  | [d1, d2] => { results := [.lit (.bool false)], args := [d1, d2] }
  | _ => none }
def FnExactPowerCongruenceWrongFalsely : Prop := fnExactPowerCongruenceRow.holds Try.pinned (OpenSpec.ofChange fnExactPowerCongruenceWrong)

/-- 'laws.FnExactStatesOf': WHATEVER THE INPUT: true; the input reads as it did. -/
def fnExactStatesOfSpec : ChangeSpec := { name := "fnExactStatesOf", fn := fun _ => fun
  | [d1, d2, d3] => { results := [.lit (.bool true)], args := [d1, d2, d3] }
  | _ => none }
def fnExactStatesOfRow : OpenClaim := { program := "ytifigkkghfjhpaa", sum := "12eeb11c33ba17f495254f1811bf5268d5ec688446d1c1823073d7749cfee9ff", func := "loop.example/g01121/laws.FnExactStatesOf", spec := "fnExactStatesOf", apart := false }
def FnExactStatesOfSaid : Prop := fnExactStatesOfRow.holds Try.pinned (OpenSpec.ofChange fnExactStatesOfSpec)

/-- ITS FALSE NEIGHBOUR: 'it returns false'. Refute it at one input. -/
def fnExactStatesOfWrong : ChangeSpec := { name := "fnExactStatesOf", fn := fun _ => fun
  | [d1, d2, d3] => { results := [.lit (.bool false)], args := [d1, d2, d3] }
  | _ => none }
def FnExactStatesOfWrongFalsely : Prop := fnExactStatesOfRow.holds Try.pinned (OpenSpec.ofChange fnExactStatesOfWrong)

/-- 'laws.FnExactFactorsFrom': WHATEVER THE INPUT: true; the input reads as it did. -/
def fnExactFactorsFromSpec : ChangeSpec := { name := "fnExactFactorsFrom", fn := fun _ => fun
  | [d1, d2] => { results := [.lit (.bool true)], args := [d1, d2] }
  | _ => none }
def fnExactFactorsFromRow : OpenClaim := { program := "ytifigkkghfjhpaa", sum := "12eeb11c33ba17f495254f1811bf5268d5ec688446d1c1823073d7749cfee9ff", func := "loop.example/g01121/laws.FnExactFactorsFrom", spec := "fnExactFactorsFrom", unfollowed := true, recurses := true, apart := false }
def FnExactFactorsFromSaid : Prop := fnExactFactorsFromRow.holds Try.pinned (OpenSpec.ofChange fnExactFactorsFromSpec)

/-- ITS FALSE NEIGHBOUR: 'it returns false'. Refute it at one input. -/
def fnExactFactorsFromWrong : ChangeSpec := { name := "fnExactFactorsFrom", fn := fun _ => fun
  | [d1, d2] => { results := [.lit (.bool false)], args := [d1, d2] }
  | _ => none }
def FnExactFactorsFromWrongFalsely : Prop := fnExactFactorsFromRow.holds Try.pinned (OpenSpec.ofChange fnExactFactorsFromWrong)

/-- 'laws.FnExactModulusFrom': WHATEVER THE INPUT: true; the input reads as it did. -/
def fnExactModulusFromSpec : ChangeSpec := { name := "fnExactModulusFrom", fn := fun _ => fun
  | [d] => { results := [.lit (.bool true)], args := [d] }
  | _ => none }
def fnExactModulusFromRow : OpenClaim := { program := "ytifigkkghfjhpaa", sum := "12eeb11c33ba17f495254f1811bf5268d5ec688446d1c1823073d7749cfee9ff", func := "loop.example/g01121/laws.FnExactModulusFrom", spec := "fnExactModulusFrom", unfollowed := true, recurses := true, apart := false }
def FnExactModulusFromSaid : Prop := fnExactModulusFromRow.holds Try.pinned (OpenSpec.ofChange fnExactModulusFromSpec)

/-- ITS FALSE NEIGHBOUR: 'it returns false'. Refute it at one input. -/
def fnExactModulusFromWrong : ChangeSpec := { name := "fnExactModulusFrom", fn := fun _ => fun
  | [d] => { results := [.lit (.bool false)], args := [d] }
  | _ => none }
def FnExactModulusFromWrongFalsely : Prop := fnExactModulusFromRow.holds Try.pinned (OpenSpec.ofChange fnExactModulusFromWrong)

/-- 'laws.FnExactBinomialOf': WHATEVER THE INPUT: true; the input reads as it did. -/
def fnExactBinomialOfSpec : ChangeSpec := { name := "fnExactBinomialOf", fn := fun _ => fun
  | [d1, d2] => { results := [.lit (.bool true)], args := [d1, d2] }
  | _ => none }
def fnExactBinomialOfRow : OpenClaim := { program := "ytifigkkghfjhpaa", sum := "12eeb11c33ba17f495254f1811bf5268d5ec688446d1c1823073d7749cfee9ff", func := "loop.example/g01121/laws.FnExactBinomialOf", spec := "fnExactBinomialOf", named := ["math/bits.divideError", "math/bits.overflowError"], apart := false }
def FnExactBinomialOfSaid : Prop := fnExactBinomialOfRow.holds Try.pinned (OpenSpec.ofChange fnExactBinomialOfSpec)

/-- ITS FALSE NEIGHBOUR: 'it returns false'. Refute it at one input. -/
def fnExactBinomialOfWrong : ChangeSpec := { name := "fnExactBinomialOf", fn := fun _ => fun
  | [d1, d2] => { results := [.lit (.bool false)], args := [d1, d2] }
  | _ => none }
def FnExactBinomialOfWrongFalsely : Prop := fnExactBinomialOfRow.holds Try.pinned (OpenSpec.ofChange fnExactBinomialOfWrong)

/-- 'laws.FnJumped': WHATEVER THE INPUT: true; the input reads as it did. -/
def fnJumpedSpec : ChangeSpec := { name := "fnJumped", fn := fun _ => fun
  | [d1, d2] => { results := [.lit (.bool true)], args := [d1, d2] }
  | _ => none }
def fnJumpedRow : OpenClaim := { program := "ytifigkkghfjhpaa", sum := "12eeb11c33ba17f495254f1811bf5268d5ec688446d1c1823073d7749cfee9ff", func := "loop.example/g01121/laws.FnJumped", spec := "fnJumped", apart := false }
def FnJumpedSaid : Prop := fnJumpedRow.holds Try.pinned (OpenSpec.ofChange fnJumpedSpec)

/-- ITS FALSE NEIGHBOUR: 'it returns false'. Refute it at one input. -/
def fnJumpedWrong : ChangeSpec := { name := "fnJumped", fn := fun _ => fun
  | [d1, d2] => { results := [.lit (.bool false)], args := [d1, d2] }
  | _ => none }
def FnJumpedWrongFalsely : Prop := fnJumpedRow.holds Try.pinned (OpenSpec.ofChange fnJumpedWrong)

/-- 'laws.FnPascal': WHATEVER THE INPUT: true; the input reads as it did. -/
def fnPascalSpec : ChangeSpec := { name := "fnPascal", fn := fun _ => fun
  | [d1, d2] => { results := [.lit (.bool true)], args := [d1, d2] }
  | _ => none }
def fnPascalRow : OpenClaim := { program := "ytifigkkghfjhpaa", sum := "12eeb11c33ba17f495254f1811bf5268d5ec688446d1c1823073d7749cfee9ff", func := "loop.example/g01121/laws.FnPascal", spec := "fnPascal", named := ["math/bits.divideError", "math/bits.overflowError"], apart := false }
def FnPascalSaid : Prop := fnPascalRow.holds Try.pinned (OpenSpec.ofChange fnPascalSpec)

/-- ITS FALSE NEIGHBOUR: 'it returns false'. Refute it at one input. -/
def fnPascalWrong : ChangeSpec := { name := "fnPascal", fn := fun _ => fun
  | [d1, d2] => { results := [.lit (.bool false)], args := [d1, d2] }
  | _ => none }
def FnPascalWrongFalsely : Prop := fnPascalRow.holds Try.pinned (OpenSpec.ofChange fnPascalWrong)

/- THE SECOND FORM. 'bulk': how many values and letters a reading holds, each counted each time it is reached (what is shared counts as often as it is met; a slice's spare places count too). A statement '..UptoSaid' is the law's where the arguments, and the package variables that the reading takes, are together of bulk at most 1048576: NARROWER than '..Said'. Prove '..Said' where nothing that the law and all that it calls make is longer than what came in: it says more and counts as full. Else prove '..UptoSaid'. A law counts once. -/
mutual
def uptoBulk {H : Type} : DataW H → Nat
  | .lit (.string bytes) => bytes.length + 1
  | .lit _ => 1
  | .nil => 1
  | .ptr d => uptoBulk d + 1
  | .slice elems spare => uptoBulkAll elems + uptoBulkAll spare + 1
  | .agg parts => uptoBulkAll parts + 1
  | .iface _ d => uptoBulk d + 1
  | .map entries => uptoBulkEntries entries + 1
  | .held _ => 1
def uptoBulkAll {H : Type} : List (DataW H) → Nat
  | [] => 0
  | d :: r => uptoBulk d + uptoBulkAll r
def uptoBulkEntries {H : Type} : List (Lit × DataW H) → Nat
  | [] => 0
  | x :: r => uptoBulkEntry x + uptoBulkEntries r
def uptoBulkEntry {H : Type} : Lit × DataW H → Nat
  | (.string bytes, d) => bytes.length + uptoBulk d + 1
  | (_, d) => uptoBulk d + 1
 end
def uptoSmall : (H : Type) → List (DataW H) → Bool := fun _ ds => decide (uptoBulkAll ds ≤ 1048576)
def OpenSpec.upto (s : _root_.Go.ChangeSpec) : _root_.Go.OpenSpec := { _root_.Go.OpenSpec.ofChange s with cond := some uptoSmall }

/-- 'laws.FnExactParityOf', WHERE WHAT IT READS IS OF BULK AT MOST 1048576: true; the input reads as it did. -/
def fnExactParityOfUptoRow : OpenClaim := { program := "ytifigkkghfjhpaa", sum := "12eeb11c33ba17f495254f1811bf5268d5ec688446d1c1823073d7749cfee9ff", func := "loop.example/g01121/laws.FnExactParityOf", spec := "fnExactParityOf", apart := false, narrowed := true }
def FnExactParityOfUptoSaid : Prop := fnExactParityOfUptoRow.holds Try.pinned (OpenSpec.upto fnExactParityOfSpec)

/-- 'laws.FnExactMakeFraction', WHERE WHAT IT READS IS OF BULK AT MOST 1048576: true; the input reads as it did. -/
def fnExactMakeFractionUptoRow : OpenClaim := { program := "ytifigkkghfjhpaa", sum := "12eeb11c33ba17f495254f1811bf5268d5ec688446d1c1823073d7749cfee9ff", func := "loop.example/g01121/laws.FnExactMakeFraction", spec := "fnExactMakeFraction", apart := false, narrowed := true }
def FnExactMakeFractionUptoSaid : Prop := fnExactMakeFractionUptoRow.holds Try.pinned (OpenSpec.upto fnExactMakeFractionSpec)

/-- 'laws.FnExactJumpState', WHERE WHAT IT READS IS OF BULK AT MOST 1048576: true; the input reads as it did. -/
def fnExactJumpStateUptoRow : OpenClaim := { program := "ytifigkkghfjhpaa", sum := "12eeb11c33ba17f495254f1811bf5268d5ec688446d1c1823073d7749cfee9ff", func := "loop.example/g01121/laws.FnExactJumpState", spec := "fnExactJumpState", apart := false, narrowed := true }
def FnExactJumpStateUptoSaid : Prop := fnExactJumpStateUptoRow.holds Try.pinned (OpenSpec.upto fnExactJumpStateSpec)

/-- 'laws.FnExactBackCongruence', WHERE WHAT IT READS IS OF BULK AT MOST 1048576: true; the input reads as it did. -/
def fnExactBackCongruenceUptoRow : OpenClaim := { program := "ytifigkkghfjhpaa", sum := "12eeb11c33ba17f495254f1811bf5268d5ec688446d1c1823073d7749cfee9ff", func := "loop.example/g01121/laws.FnExactBackCongruence", spec := "fnExactBackCongruence", apart := false, narrowed := true }
def FnExactBackCongruenceUptoSaid : Prop := fnExactBackCongruenceUptoRow.holds Try.pinned (OpenSpec.upto fnExactBackCongruenceSpec)

/-- 'laws.FnExactPowerCongruence', WHERE WHAT IT READS IS OF BULK AT MOST 1048576: true; the input reads as it did. -/
def fnExactPowerCongruenceUptoRow : OpenClaim := { program := "ytifigkkghfjhpaa", sum := "12eeb11c33ba17f495254f1811bf5268d5ec688446d1c1823073d7749cfee9ff", func := "loop.example/g01121/laws.FnExactPowerCongruence", spec := "fnExactPowerCongruence", apart := false, narrowed := true }
def FnExactPowerCongruenceUptoSaid : Prop := fnExactPowerCongruenceUptoRow.holds Try.pinned (OpenSpec.upto fnExactPowerCongruenceSpec)

/-- 'laws.FnExactStatesOf', WHERE WHAT IT READS IS OF BULK AT MOST 1048576: true; the input reads as it did. -/
def fnExactStatesOfUptoRow : OpenClaim := { program := "ytifigkkghfjhpaa", sum := "12eeb11c33ba17f495254f1811bf5268d5ec688446d1c1823073d7749cfee9ff", func := "loop.example/g01121/laws.FnExactStatesOf", spec := "fnExactStatesOf", apart := false, narrowed := true }
def FnExactStatesOfUptoSaid : Prop := fnExactStatesOfUptoRow.holds Try.pinned (OpenSpec.upto fnExactStatesOfSpec)

/-- 'laws.FnExactFactorsFrom', WHERE WHAT IT READS IS OF BULK AT MOST 1048576: true; the input reads as it did. -/
def fnExactFactorsFromUptoRow : OpenClaim := { program := "ytifigkkghfjhpaa", sum := "12eeb11c33ba17f495254f1811bf5268d5ec688446d1c1823073d7749cfee9ff", func := "loop.example/g01121/laws.FnExactFactorsFrom", spec := "fnExactFactorsFrom", unfollowed := true, recurses := true, apart := false, narrowed := true }
def FnExactFactorsFromUptoSaid : Prop := fnExactFactorsFromUptoRow.holds Try.pinned (OpenSpec.upto fnExactFactorsFromSpec)

/-- 'laws.FnExactModulusFrom', WHERE WHAT IT READS IS OF BULK AT MOST 1048576: true; the input reads as it did. -/
def fnExactModulusFromUptoRow : OpenClaim := { program := "ytifigkkghfjhpaa", sum := "12eeb11c33ba17f495254f1811bf5268d5ec688446d1c1823073d7749cfee9ff", func := "loop.example/g01121/laws.FnExactModulusFrom", spec := "fnExactModulusFrom", unfollowed := true, recurses := true, apart := false, narrowed := true }
def FnExactModulusFromUptoSaid : Prop := fnExactModulusFromUptoRow.holds Try.pinned (OpenSpec.upto fnExactModulusFromSpec)

/-- 'laws.FnExactBinomialOf', WHERE WHAT IT READS IS OF BULK AT MOST 1048576: true; the input reads as it did. -/
def fnExactBinomialOfUptoRow : OpenClaim := { program := "ytifigkkghfjhpaa", sum := "12eeb11c33ba17f495254f1811bf5268d5ec688446d1c1823073d7749cfee9ff", func := "loop.example/g01121/laws.FnExactBinomialOf", spec := "fnExactBinomialOf", named := ["math/bits.divideError", "math/bits.overflowError"], apart := false, narrowed := true }
def FnExactBinomialOfUptoSaid : Prop := fnExactBinomialOfUptoRow.holds Try.pinned (OpenSpec.upto fnExactBinomialOfSpec)

/-- 'laws.FnJumped', WHERE WHAT IT READS IS OF BULK AT MOST 1048576: true; the input reads as it did. -/
def fnJumpedUptoRow : OpenClaim := { program := "ytifigkkghfjhpaa", sum := "12eeb11c33ba17f495254f1811bf5268d5ec688446d1c1823073d7749cfee9ff", func := "loop.example/g01121/laws.FnJumped", spec := "fnJumped", apart := false, narrowed := true }
def FnJumpedUptoSaid : Prop := fnJumpedUptoRow.holds Try.pinned (OpenSpec.upto fnJumpedSpec)

/-- 'laws.FnPascal', WHERE WHAT IT READS IS OF BULK AT MOST 1048576: true; the input reads as it did. -/
def fnPascalUptoRow : OpenClaim := { program := "ytifigkkghfjhpaa", sum := "12eeb11c33ba17f495254f1811bf5268d5ec688446d1c1823073d7749cfee9ff", func := "loop.example/g01121/laws.FnPascal", spec := "fnPascal", named := ["math/bits.divideError", "math/bits.overflowError"], apart := false, narrowed := true }
def FnPascalUptoSaid : Prop := fnPascalUptoRow.holds Try.pinned (OpenSpec.upto fnPascalSpec)

end Rows
end Go.Proofs.Ytifigkkghfjhpaa
