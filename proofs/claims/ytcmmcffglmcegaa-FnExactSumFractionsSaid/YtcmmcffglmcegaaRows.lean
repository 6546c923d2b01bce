/-
  No cell of these rows narrows 'for every input' (looked for: loops, veiled, ifaces, maps, wideKeys, modest, calm, conditions, laid).
  DERIVED. THE GIVEN ROWS OF THIS SEAT. 6 by the template 'for every input the law returns true; each argument reads behind the call as it read before'; 0 by the template 'total and deterministic' (their statements: YtcmmcffglmcegaaTotals.lean).
  GIVEN WITH THE SEED: the statements are not yours to turn. If you find one false, say at which input.
  Laid BY PROGRAM, IN A SANDBOX (cutbox-rows.mjs): the forced cells as the released guide's own fill.sh prints them over the translation 8080d5d56c114f15… (all of the seat's roots in one cut). By AI agents, Wed Nov 11 2026. No macro, syntax, notation, axiom, sorry.
-/
import Derived.Test.YtcmmcffglmcegaaChecked
import GoSem.Claim
import GoSem.ClaimJoined
import GoSem.ClaimMapViews
import Derived.JoinedTies
import Derived.KernelRfl
namespace Go.Proofs.Ytcmmcffglmcegaa
/- THE CELL 'sum', in the pinned program and in every row, IS THE sha256 OF THE DUMP (.gsa) THAT YtcmmcffglmcegaaProg.lean LOADS. Nothing in Lean hashes anything: it is a label: what it is worth is what the hold of that sum in a sandbox is worth. -/
noncomputable def Try.pinned : Pinned := { name := "ytcmmcffglmcegaa", sum := "8080d5d56c114f158488132172d24194f47ab2e00c8cd5755c93dea17ced21ba", checked := Try.checked }
namespace Rows
def none {H : Type} : Left H := { results := [], args := [] }

/-- 'laws.FnExactMulFractions': WHATEVER THE INPUT: true; the input reads as it did. -/
def fnExactMulFractionsSpec : ChangeSpec := { name := "fnExactMulFractions", fn := fun _ => fun
  | [d1, d2] => { results := [.lit (.bool true)], args := [d1, d2] }
  | _ => none }
def fnExactMulFractionsRow : OpenClaim := { program := "ytcmmcffglmcegaa", sum := "8080d5d56c114f158488132172d24194f47ab2e00c8cd5755c93dea17ced21ba", func := "loop.example/g01121/laws.FnExactMulFractions", spec := "fnExactMulFractions", unfollowed := true, recurses := true, apart := false }
def FnExactMulFractionsSaid : Prop := fnExactMulFractionsRow.holds Try.pinned (OpenSpec.ofChange fnExactMulFractionsSpec)

/-- ITS FALSE NEIGHBOUR: 'it returns false'. Refute it at one input. -/
def fnExactMulFractionsWrong : ChangeSpec := { name := "fnExactMulFractions", fn := fun _ => fun
  | [d1, d2] => { results := [.lit (.bool false)], args := [d1, d2] }
  | _ => none }
def FnExactMulFractionsWrongFalsely : Prop := fnExactMulFractionsRow.holds Try.pinned (OpenSpec.ofChange fnExactMulFractionsWrong)

/-- 'laws.FnExactCompareFractions': WHATEVER THE INPUT: true; the input reads as it did. -/
def fnExactCompareFractionsSpec : ChangeSpec := { name := "fnExactCompareFractions", fn := fun _ => fun
  | [d1, d2] => { results := [.lit (.bool true)], args := [d1, d2] }
  | _ => none }
def fnExactCompareFractionsRow : OpenClaim := { program := "ytcmmcffglmcegaa", sum := "8080d5d56c114f158488132172d24194f47ab2e00c8cd5755c93dea17ced21ba", func := "loop.example/g01121/laws.FnExactCompareFractions", spec := "fnExactCompareFractions", unfollowed := true, recurses := true, apart := false }
def FnExactCompareFractionsSaid : Prop := fnExactCompareFractionsRow.holds Try.pinned (OpenSpec.ofChange fnExactCompareFractionsSpec)

/-- ITS FALSE NEIGHBOUR: 'it returns false'. Refute it at one input. -/
def fnExactCompareFractionsWrong : ChangeSpec := { name := "fnExactCompareFractions", fn := fun _ => fun
  | [d1, d2] => { results := [.lit (.bool false)], args := [d1, d2] }
  | _ => none }
def FnExactCompareFractionsWrongFalsely : Prop := fnExactCompareFractionsRow.holds Try.pinned (OpenSpec.ofChange fnExactCompareFractionsWrong)

/-- 'laws.FnExactDivFractions': WHATEVER THE INPUT: true; the input reads as it did. -/
def fnExactDivFractionsSpec : ChangeSpec := { name := "fnExactDivFractions", fn := fun _ => fun
  | [d1, d2] => { results := [.lit (.bool true)], args := [d1, d2] }
  | _ => none }
def fnExactDivFractionsRow : OpenClaim := { program := "ytcmmcffglmcegaa", sum := "8080d5d56c114f158488132172d24194f47ab2e00c8cd5755c93dea17ced21ba", func := "loop.example/g01121/laws.FnExactDivFractions", spec := "fnExactDivFractions", unfollowed := true, recurses := true, apart := false }
def FnExactDivFractionsSaid : Prop := fnExactDivFractionsRow.holds Try.pinned (OpenSpec.ofChange fnExactDivFractionsSpec)

/-- ITS FALSE NEIGHBOUR: 'it returns false'. Refute it at one input. -/
def fnExactDivFractionsWrong : ChangeSpec := { name := "fnExactDivFractions", fn := fun _ => fun
  | [d1, d2] => { results := [.lit (.bool false)], args := [d1, d2] }
  | _ => none }
def FnExactDivFractionsWrongFalsely : Prop := fnExactDivFractionsRow.holds Try.pinned (OpenSpec.ofChange fnExactDivFractionsWrong)

/-- 'laws.FnExactAddFractions': WHATEVER THE INPUT: true; the input reads as it did. -/
def fnExactAddFractionsSpec : ChangeSpec := { name := "fnExactAddFractions", fn := fun _ => fun
  | [d1, d2] => { results := [.lit (.bool true)], args := [d1, d2] }
  | _ => none }
def fnExactAddFractionsRow : OpenClaim := { program := "ytcmmcffglmcegaa", sum := "8080d5d56c114f158488132172d24194f47ab2e00c8cd5755c93dea17ced21ba", func := "loop.example/g01121/laws.FnExactAddFractions", spec := "fnExactAddFractions", unfollowed := true, recurses := true, apart := false }
def FnExactAddFractionsSaid : Prop := fnExactAddFractionsRow.holds Try.pinned (OpenSpec.ofChange fnExactAddFractionsSpec)

/-- ITS FALSE NEIGHBOUR: 'it returns false'. Refute it at one input. -/
def fnExactAddFractionsWrong : ChangeSpec := { name := "fnExactAddFractions", fn := fun _ => fun
  | [d1, d2] => { results := [.lit (.bool false)], args := [d1, d2] }
  | _ => none }
def FnExactAddFractionsWrongFalsely : Prop := fnExactAddFractionsRow.holds Try.pinned (OpenSpec.ofChange fnExactAddFractionsWrong)

/-- 'laws.FnExactSubFractions': WHATEVER THE INPUT: true; the input reads as it did. -/
def fnExactSubFractionsSpec : ChangeSpec := { name := "fnExactSubFractions", fn := fun _ => fun
  | [d1, d2] => { results := [.lit (.bool true)], args := [d1, d2] }
  | _ => none }
def fnExactSubFractionsRow : OpenClaim := { program := "ytcmmcffglmcegaa", sum := "8080d5d56c114f158488132172d24194f47ab2e00c8cd5755c93dea17ced21ba", func := "loop.example/g01121/laws.FnExactSubFractions", spec := "fnExactSubFractions", unfollowed := true, recurses := true, apart := false }
def FnExactSubFractionsSaid : Prop := fnExactSubFractionsRow.holds Try.pinned (OpenSpec.ofChange fnExactSubFractionsSpec)

/-- ITS FALSE NEIGHBOUR: 'it returns false'. Refute it at one input. -/
def fnExactSubFractionsWrong : ChangeSpec := { name := "fnExactSubFractions", fn := fun _ => fun
  | [d1, d2] => { results := [.lit (.bool false)], args := [d1, d2] }
  | _ => none }
def FnExactSubFractionsWrongFalsely : Prop := fnExactSubFractionsRow.holds Try.pinned (OpenSpec.ofChange fnExactSubFractionsWrong)

/-- 'laws.FnExactSumFractions': WHATEVER THE INPUT: true; the input reads as it did. -/
def fnExactSumFractionsSpec : ChangeSpec := { name := "fnExactSumFractions", fn := fun _ => fun
  | [d] => { results := [.lit (.bool true)], args := [d] }
  | _ => none }
def fnExactSumFractionsRow : OpenClaim := { program := "ytcmmcffglmcegaa", sum := "8080d5d56c114f158488132172d24194f47ab2e00c8cd5755c93dea17ced21ba", func := "loop.example/g01121/laws.FnExactSumFractions", spec := "fnExactSumFractions", unfollowed := true, recurses := true, apart := false }
def FnExactSumFractionsSaid : Prop := fnExactSumFractionsRow.holds Try.pinned (OpenSpec.ofChange fnExactSumFractionsSpec)

/-- ITS FALSE NEIGHBOUR: 'it returns false'. Refute it at one input. -/
def fnExactSumFractionsWrong : ChangeSpec := { name := "fnExactSumFractions", fn := fun _ => fun
  | [d] => { results := [.lit (.bool false)], args := [d] }
  | _ => none }
def FnExactSumFractionsWrongFalsely : Prop := fnExactSumFractionsRow.holds Try.pinned (OpenSpec.ofChange fnExactSumFractionsWrong)

/- THE SECOND FORM. 'bulk': how many values and letters a reading holds, each counted each time it is reached (what is shared counts as often as it is met; a slice's spare places count too). A statement '..UptoSaid' is the law's where the arguments, and the package variables that the reading takes, are together of bulk at most 1048576: NARROWER than '..Said'. Prove '..Said' where nothing that the law and all that it calls make is longer than what came in: it says more and counts as full. Else prove '..UptoSaid'. A law counts once. -/
mutual
def uptoBulk {H : Type} : DataW H → Nat
  | .lit (.string bytes) => bytes.length + 1
  | .lit _ => 1
  | .nil => 1
  | .ptr d => uptoBulk d + 1
  | .slice elems spare => uptoBulkAll elems + uptoBulkAll spare + 1
  | .agg parts => uptoBulkAll parts + 1
  | .iface _ d => uptoBulk d + 1
  | .map entries => uptoBulkEntries entries + 1
  | .held _ => 1
def uptoBulkAll {H : Type} : List (DataW H) → Nat
  | [] => 0
  | d :: r => uptoBulk d + uptoBulkAll r
def uptoBulkEntries {H : Type} : List (Lit × DataW H) → Nat
  | [] => 0
  | x :: r => uptoBulkEntry x + uptoBulkEntries r
def uptoBulkEntry {H : Type} : Lit × DataW H → Nat
  | (.string bytes, d) => bytes.length + uptoBulk d + 1
  | (_, d) => uptoBulk d + 1
 end
def uptoSmall : (H : Type) → List (DataW H) → Bool := fun _ ds => decide (uptoBulkAll ds ≤ 1048576)
def OpenSpec.upto (s : _root_.Go.ChangeSpec) : _root_.Go.OpenSpec := { _root_.Go.OpenSpec.ofChange s with cond := some uptoSmall }

/-- 'laws.FnExactMulFractions', WHERE WHAT IT READS IS OF BULK AT MOST 1048576: true; the input reads as it did. -/
def fnExactMulFractionsUptoRow : OpenClaim := { program := "ytcmmcffglmcegaa", sum := "8080d5d56c114f158488132172d24194f47ab2e00c8cd5755c93dea17ced21ba", func := "loop.example/g01121/laws.FnExactMulFractions", spec := "fnExactMulFractions", unfollowed := true, recurses := true, apart := false, narrowed := true }
def FnExactMulFractionsUptoSaid : Prop := fnExactMulFractionsUptoRow.holds Try.pinned (OpenSpec.upto fnExactMulFractionsSpec)

/-- 'laws.FnExactCompareFractions', WHERE WHAT IT READS IS OF BULK AT MOST 1048576: true; the input reads as it did. -/
def fnExactCompareFractionsUptoRow : OpenClaim := { program := "ytcmmcffglmcegaa", sum := "8080d5d56c114f158488132172d24194f47ab2e00c8cd5755c93dea17ced21ba", func := "loop.example/g01121/laws.FnExactCompareFractions", spec := "fnExactCompareFractions", unfollowed := true, recurses := true, apart := false, narrowed := true }
def FnExactCompareFractionsUptoSaid : Prop := fnExactCompareFractionsUptoRow.holds Try.pinned (OpenSpec.upto fnExactCompareFractionsSpec)

/-- 'laws.FnExactDivFractions', WHERE WHAT IT READS IS OF BULK AT MOST 1048576: true; the input reads as it did. -/
def fnExactDivFractionsUptoRow : OpenClaim := { program := "ytcmmcffglmcegaa", sum := "8080d5d56c114f158488132172d24194f47ab2e00c8cd5755c93dea17ced21ba", func := "loop.example/g01121/laws.FnExactDivFractions", spec := "fnExactDivFractions", unfollowed := true, recurses := true, apart := false, narrowed := true }
def FnExactDivFractionsUptoSaid : Prop := fnExactDivFractionsUptoRow.holds Try.pinned (OpenSpec.upto fnExactDivFractionsSpec)

/-- 'laws.FnExactAddFractions', WHERE WHAT IT READS IS OF BULK AT MOST 1048576: true; the input reads as it did. -/
def fnExactAddFractionsUptoRow : OpenClaim := { program := "ytcmmcffglmcegaa", sum := "8080d5d56c114f158488132172d24194f47ab2e00c8cd5755c93dea17ced21ba", func := "loop.example/g01121/laws.FnExactAddFractions", spec := "fnExactAddFractions", unfollowed := true, recurses := true, apart := false, narrowed := true }
def FnExactAddFractionsUptoSaid : Prop := fnExactAddFractionsUptoRow.holds Try.pinned (OpenSpec.upto fnExactAddFractionsSpec)

/-- 'laws.FnExactSubFractions', WHERE WHAT IT READS IS OF BULK AT MOST 1048576: true; the input reads as it did. -/
def fnExactSubFractionsUptoRow : OpenClaim := { program := "ytcmmcffglmcegaa", sum := "8080d5d56c114f158488132172d24194f47ab2e00c8cd5755c93dea17ced21ba", func := "loop.example/g01121/laws.FnExactSubFractions", spec := "fnExactSubFractions", unfollowed := true, recurses := true, apart := false, narrowed := true }
def FnExactSubFractionsUptoSaid : Prop := fnExactSubFractionsUptoRow.holds Try.pinned (OpenSpec.upto fnExactSubFractionsSpec)

/-- 'laws.FnExactSumFractions', WHERE WHAT IT READS IS OF BULK AT MOST 1048576: true; the input reads as it did. -/
def fnExactSumFractionsUptoRow : OpenClaim := { program := "ytcmmcffglmcegaa", sum := "8080d5d56c114f158488132172d24194f47ab2e00c8cd5755c93dea17ced21ba", func := "loop.example/g01121/laws.FnExactSumFractions", spec := "fnExactSumFractions", unfollowed := true, recurses := true, apart := false, narrowed := true }
def FnExactSumFractionsUptoSaid : Prop := fnExactSumFractionsUptoRow.holds Try.pinned (OpenSpec.upto fnExactSumFractionsSpec)

end Rows
end Go.Proofs.Ytcmmcffglmcegaa
