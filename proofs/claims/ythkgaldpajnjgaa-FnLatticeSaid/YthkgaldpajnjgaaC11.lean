/-
  Contracts of the powers of a congruence, and of jumps. Conditions stand in each contract (valid arguments).
-/
import Derived.Test.YthkgaldpajnjgaaC10
namespace Go.Proofs.Ythkgaldpajnjgaa
open Go.RowKit
set_option linter.unusedVariables false

/-- A congruence in a block. -/
def cgr (m f a : Int) : Array Value := #[.int .i64 m, .int .i64 f, .int .i64 a]
theorem cgr_cells {w : World} {b : Nat} {m f a : Int} {t : TypeId} (h : Blk w b (cgr m f a) t) :
    w.cell? ⟨b, 0, none⟩ = some (.int .i64 m) ∧ w.cell? ⟨b, 1, none⟩ = some (.int .i64 f) ∧ w.cell? ⟨b, 2, none⟩ = some (.int .i64 a) ∧ w.frozen? ⟨b, 0, none⟩ = false ∧ w.frozen? ⟨b, 1, none⟩ = false ∧ w.frozen? ⟨b, 2, none⟩ = false :=
  ⟨h.cell 0 rfl, h.cell 1 rfl, h.cell 2 rfl, h.free 0, h.free 1, h.free 2⟩
end Go.Proofs.Ythkgaldpajnjgaa
