/-
  No cell of these rows narrows 'for every input' (looked for: loops, veiled, ifaces, maps, wideKeys, modest, calm, conditions, laid).
  DERIVED. THE GIVEN ROWS OF THIS SEAT. 6 by the template 'for every input the law returns true; each argument reads behind the call as it read before'; 0 by the template 'total and deterministic' (their statements: YtecojhgoeackcabTotals.lean).
  GIVEN WITH THE SEED: the statements are not yours to turn. If you find one false, say at which input.
  Laid BY PROGRAM, IN A SANDBOX (cutbox-rows.mjs): the forced cells as the released guide's own fill.sh prints them over the translation ada3fa79bbe33513… (all of the seat's roots in one cut). By AI agents, Wed Nov 11 2026. No macro, syntax, notation, axiom, sorry.
-/
import Derived.Test.YtecojhgoeackcabChecked
import GoSem.Claim
import GoSem.ClaimJoined
import GoSem.ClaimMapViews
import Derived.JoinedTies
import Derived.KernelRfl
namespace Go.Proofs.Ytecojhgoeackcab
/- THE CELL 'sum', in the pinned program and in every row, IS THE sha256 OF THE DUMP (.gsa) THAT YtecojhgoeackcabProg.lean LOADS. Nothing in Lean hashes anything: it is a label: what it is worth is what the hold of that sum in a sandbox is worth. -/
noncomputable def Try.pinned : Pinned := { name := "ytecojhgoeackcab", sum := "ada3fa79bbe335139b0d11e731b05508105d6946d44c00717da850ed757917ee", checked := Try.checked }
namespace Rows
def none {H : Type} : Left H := { results := [], args := [] }

/-- 'laws.FnExactPolyOf': WHATEVER THE INPUT: true; the input reads as it did. -/
def fnExactPolyOfSpec : ChangeSpec := { name := "fnExactPolyOf", fn := fun _ => fun
  | [d] => { results := [.lit (.bool true)], args := [d] }
  | _ => none }
def fnExactPolyOfRow : OpenClaim := { program := "ytecojhgoeackcab", sum := "ada3fa79bbe335139b0d11e731b05508105d6946d44c00717da850ed757917ee", func := "loop.example/g01121/laws.FnExactPolyOf", spec := "fnExactPolyOf", apart := false }
def FnExactPolyOfSaid : Prop := fnExactPolyOfRow.holds Try.pinned (OpenSpec.ofChange fnExactPolyOfSpec)

/-- ITS FALSE NEIGHBOUR: 'it returns false'. Refute it at one input. -/
def fnExactPolyOfWrong : ChangeSpec := { name := "fnExactPolyOf", fn := fun _ => fun
  | [d] => { results := [.lit (.bool false)], args := [d] }
  | _ => none }
def FnExactPolyOfWrongFalsely : Prop := fnExactPolyOfRow.holds Try.pinned (OpenSpec.ofChange fnExactPolyOfWrong)

/-- 'laws.FnLattice': WHATEVER THE INPUT: true; the input reads as it did. -/
def fnLatticeSpec : ChangeSpec := { name := "fnLattice", fn := fun _ => fun
  | [d1, d2] => { results := [.lit (.bool true)], args := [d1, d2] }
  | _ => none }
def fnLatticeRow : OpenClaim := { program := "ytecojhgoeackcab", sum := "ada3fa79bbe335139b0d11e731b05508105d6946d44c00717da850ed757917ee", func := "loop.example/g01121/laws.FnLattice", spec := "fnLattice", unfollowed := true, recurses := true, apart := false }
def FnLatticeSaid : Prop := fnLatticeRow.holds Try.pinned (OpenSpec.ofChange fnLatticeSpec)

/-- ITS FALSE NEIGHBOUR: 'it returns false'. Refute it at one input. -/
def fnLatticeWrong : ChangeSpec := { name := "fnLattice", fn := fun _ => fun
  | [d1, d2] => { results := [.lit (.bool false)], args := [d1, d2] }
  | _ => none }
def FnLatticeWrongFalsely : Prop := fnLatticeRow.holds Try.pinned (OpenSpec.ofChange fnLatticeWrong)

/-- 'laws.FnExactBitsOf': WHATEVER THE INPUT: true; the input reads as it did. -/
def fnExactBitsOfSpec : ChangeSpec := { name := "fnExactBitsOf", fn := fun _ => fun
  | [d1, d2] => { results := [.lit (.bool true)], args := [d1, d2] }
  | _ => none }
def fnExactBitsOfRow : OpenClaim := { program := "ytecojhgoeackcab", sum := "ada3fa79bbe335139b0d11e731b05508105d6946d44c00717da850ed757917ee", func := "loop.example/g01121/laws.FnExactBitsOf", spec := "fnExactBitsOf", apart := false }
def FnExactBitsOfSaid : Prop := fnExactBitsOfRow.holds Try.pinned (OpenSpec.ofChange fnExactBitsOfSpec)

/-- ITS FALSE NEIGHBOUR: 'it returns false'. Refute it at one input. -/
def fnExactBitsOfWrong : ChangeSpec := { name := "fnExactBitsOf", fn := fun _ => fun
  | [d1, d2] => { results := [.lit (.bool false)], args := [d1, d2] }
  | _ => none }
def FnExactBitsOfWrongFalsely : Prop := fnExactBitsOfRow.holds Try.pinned (OpenSpec.ofChange fnExactBitsOfWrong)

/-- 'laws.FnExactNextState': WHATEVER THE INPUT: true; the input reads as it did. -/
def fnExactNextStateSpec : ChangeSpec := { name := "fnExactNextState", fn := fun _ => fun
  | [d1, d2] => { results := [.lit (.bool true)], args := [d1, d2] }
  | _ => none }
def fnExactNextStateRow : OpenClaim := { program := "ytecojhgoeackcab", sum := "ada3fa79bbe335139b0d11e731b05508105d6946d44c00717da850ed757917ee", func := "loop.example/g01121/laws.FnExactNextState", spec := "fnExactNextState", apart := false }
def FnExactNextStateSaid : Prop := fnExactNextStateRow.holds Try.pinned (OpenSpec.ofChange fnExactNextStateSpec)

/-- ITS FALSE NEIGHBOUR: 'it returns false'. Refute it at one input. -/
def fnExactNextStateWrong : ChangeSpec := { name := "fnExactNextState", fn := fun _ => fun
  | [d1, d2] => { results := [.lit (.bool false)], args := [d1, d2] }
  | _ => none }
def FnExactNextStateWrongFalsely : Prop := fnExactNextStateRow.holds Try.pinned (OpenSpec.ofChange fnExactNextStateWrong)

/-- 'laws.FnExactFactorOrder': WHATEVER THE INPUT: true; the input reads as it did. -/
def fnExactFactorOrderSpec : ChangeSpec := { name := "fnExactFactorOrder", fn := fun _ => fun
  | [d1, d2] => { results := [.lit (.bool true)], args := [d1, d2] }
  | _ => none }
def fnExactFactorOrderRow : OpenClaim := { program := "ytecojhgoeackcab", sum := "ada3fa79bbe335139b0d11e731b05508105d6946d44c00717da850ed757917ee", func := "loop.example/g01121/laws.FnExactFactorOrder", spec := "fnExactFactorOrder", apart := false }
def FnExactFactorOrderSaid : Prop := fnExactFactorOrderRow.holds Try.pinned (OpenSpec.ofChange fnExactFactorOrderSpec)

/-- ITS FALSE NEIGHBOUR: 'it returns false'. Refute it at one input. -/
def fnExactFactorOrderWrong : ChangeSpec := { name := "fnExactFactorOrder", fn := fun _ => fun
  | [d1, d2] => { results := [.lit (.bool false)], args := [d1, d2] }
  | _ => none }
def FnExactFactorOrderWrongFalsely : Prop := fnExactFactorOrderRow.holds Try.pinned (OpenSpec.ofChange fnExactFactorOrderWrong)

/-- 'laws.FnExactValidFraction': WHATEVER THE INPUT: true; the input reads as it did. -/
def fnExactValidFractionSpec : ChangeSpec := { name := "fnExactValidFraction", fn := fun _ => fun
  | [d] => { results := [.lit (.bool true)], args := [d] }
  | _ => none }
def fnExactValidFractionRow : OpenClaim := { program := "ytecojhgoeackcab", sum := "ada3fa79bbe335139b0d11e731b05508105d6946d44c00717da850ed757917ee", func := "loop.example/g01121/laws.FnExactValidFraction", spec := "fnExactValidFraction", apart := false }
def FnExactValidFractionSaid : Prop := fnExactValidFractionRow.holds Try.pinned (OpenSpec.ofChange fnExactValidFractionSpec)

/-- ITS FALSE NEIGHBOUR: 'it returns false'. Refute it at one input. -/
def fnExactValidFractionWrong : ChangeSpec := { name := "fnExactValidFraction", fn := fun _ => fun
  | [d] => { results := [.lit (.bool false)], args := [d] }
  | _ => none }
def FnExactValidFractionWrongFalsely : Prop := fnExactValidFractionRow.holds Try.pinned (OpenSpec.ofChange fnExactValidFractionWrong)

/- THE SECOND FORM. 'bulk': how many values and letters a reading holds, each counted each time it is reached (what is shared counts as often as it is met; a slice's spare places count too). A statement '..UptoSaid' is the law's where the arguments, and the package variables that the reading takes, are together of bulk at most 1048576: NARROWER than '..Said'. Prove '..Said' where nothing that the law and all that it calls make is longer than what came in: it says more and counts as full. Else prove '..UptoSaid'. A law counts once. -/
mutual
def uptoBulk {H : Type} : DataW H → Nat
  | .lit (.string bytes) => bytes.length + 1
  | .lit _ => 1
  | .nil => 1
  | .ptr d => uptoBulk d + 1
  | .slice elems spare => uptoBulkAll elems + uptoBulkAll spare + 1
  | .agg parts => uptoBulkAll parts + 1
  | .iface _ d => uptoBulk d + 1
  | .map entries => uptoBulkEntries entries + 1
  | .held _ => 1
def uptoBulkAll {H : Type} : List (DataW H) → Nat
  | [] => 0
  | d :: r => uptoBulk d + uptoBulkAll r
def uptoBulkEntries {H : Type} : List (Lit × DataW H) → Nat
  | [] => 0
  | x :: r => uptoBulkEntry x + uptoBulkEntries r
def uptoBulkEntry {H : Type} : Lit × DataW H → Nat
  | (.string bytes, d) => bytes.length + uptoBulk d + 1
  | (_, d) => uptoBulk d + 1
 end
def uptoSmall : (H : Type) → List (DataW H) → Bool := fun _ ds => decide (uptoBulkAll ds ≤ 1048576)
def OpenSpec.upto (s : _root_.Go.ChangeSpec) : _root_.Go.OpenSpec := { _root_.Go.OpenSpec.ofChange s with cond := some uptoSmall }

/-- 'laws.FnExactPolyOf', WHERE WHAT IT READS IS OF BULK AT MOST 1048576: true; the input reads as it did. -/
def fnExactPolyOfUptoRow : OpenClaim := { program := "ytecojhgoeackcab", sum := "ada3fa79bbe335139b0d11e731b05508105d6946d44c00717da850ed757917ee", func := "loop.example/g01121/laws.FnExactPolyOf", spec := "fnExactPolyOf", apart := false, narrowed := true }
def FnExactPolyOfUptoSaid : Prop := fnExactPolyOfUptoRow.holds Try.pinned (OpenSpec.upto fnExactPolyOfSpec)

/-- 'laws.FnLattice', WHERE WHAT IT READS IS OF BULK AT MOST 1048576: true; the input reads as it did. -/
def fnLatticeUptoRow : OpenClaim := { program := "ytecojhgoeackcab", sum := "ada3fa79bbe335139b0d11e731b05508105d6946d44c00717da850ed757917ee", func := "loop.example/g01121/laws.FnLattice", spec := "fnLattice", unfollowed := true, recurses := true, apart := false, narrowed := true }
def FnLatticeUptoSaid : Prop := fnLatticeUptoRow.holds Try.pinned (OpenSpec.upto fnLatticeSpec)

/-- 'laws.FnExactBitsOf', WHERE WHAT IT READS IS OF BULK AT MOST 1048576: true; the input reads as it did. -/
def fnExactBitsOfUptoRow : OpenClaim := { program := "ytecojhgoeackcab", sum := "ada3fa79bbe335139b0d11e731b05508105d6946d44c00717da850ed757917ee", func := "loop.example/g01121/laws.FnExactBitsOf", spec := "fnExactBitsOf", apart := false, narrowed := true }
def FnExactBitsOfUptoSaid : Prop := fnExactBitsOfUptoRow.holds Try.pinned (OpenSpec.upto fnExactBitsOfSpec)

/-- 'laws.FnExactNextState', WHERE WHAT IT READS IS OF BULK AT MOST 1048576: true; the input reads as it did. -/
def fnExactNextStateUptoRow : OpenClaim := { program := "ytecojhgoeackcab", sum := "ada3fa79bbe335139b0d11e731b05508105d6946d44c00717da850ed757917ee", func := "loop.example/g01121/laws.FnExactNextState", spec := "fnExactNextState", apart := false, narrowed := true }
def FnExactNextStateUptoSaid : Prop := fnExactNextStateUptoRow.holds Try.pinned (OpenSpec.upto fnExactNextStateSpec)

/-- 'laws.FnExactFactorOrder', WHERE WHAT IT READS IS OF BULK AT MOST 1048576: true; the input reads as it did. -/
def fnExactFactorOrderUptoRow : OpenClaim := { program := "ytecojhgoeackcab", sum := "ada3fa79bbe335139b0d11e731b05508105d6946d44c00717da850ed757917ee", func := "loop.example/g01121/laws.FnExactFactorOrder", spec := "fnExactFactorOrder", apart := false, narrowed := true }
def FnExactFactorOrderUptoSaid : Prop := fnExactFactorOrderUptoRow.holds Try.pinned (OpenSpec.upto fnExactFactorOrderSpec)

/-- 'laws.FnExactValidFraction', WHERE WHAT IT READS IS OF BULK AT MOST 1048576: true; the input reads as it did. -/
def fnExactValidFractionUptoRow : OpenClaim := { program := "ytecojhgoeackcab", sum := "ada3fa79bbe335139b0d11e731b05508105d6946d44c00717da850ed757917ee", func := "loop.example/g01121/laws.FnExactValidFraction", spec := "fnExactValidFraction", apart := false, narrowed := true }
def FnExactValidFractionUptoSaid : Prop := fnExactValidFractionUptoRow.holds Try.pinned (OpenSpec.upto fnExactValidFractionSpec)

end Rows
end Go.Proofs.Ytecojhgoeackcab
