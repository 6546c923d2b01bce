/-
  Contracts of the composition of congruences, their powers and jumps. Conditions stand in each contract (valid arguments).
-/
import Derived.Test.YthkgaldpajnjgaaM3
import Derived.Test.YthkgaldpajnjgaaBlk
import Derived.Deep.RegionHeld3
import Derived.RegionTactic
import Derived.BigRegion
import Derived.ChangeAlike
namespace Go.Proofs.Ythkgaldpajnjgaa
open Go.RowKit
set_option linter.unusedVariables false

end Go.Proofs.Ythkgaldpajnjgaa
