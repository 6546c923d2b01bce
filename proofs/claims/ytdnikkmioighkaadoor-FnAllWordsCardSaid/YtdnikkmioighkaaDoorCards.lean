/-
  DERIVED. GIVEN WITH THE SEED: THE CARDS: each row of YtdnikkmioighkaaDoorRows.lean that lists a variable, with what it lists TIED to the program's text (the seventh form; the later family's looks); each row that meets fmt, with fmt's text TOLD by the authors' own Lean function (tested against real Go, not proved from fmt's source: count such statements apart). THE CARD IS WHAT COUNTS. Prove the row's statement (the work); the ties are given (YtdnikkmioighkaaDoorTie.lean); close each card by the builder's one call (the guide's Derived/Test/ToyasCard.lean, 'card_holds'). Laid BY PROGRAM, IN A SANDBOX (cutbox-door.mjs). By AI agents, Wed Nov 11 2026. No macro, syntax, notation, axiom, sorry.
-/
import Derived.Test.YtdnikkmioighkaaDoorRows
import GoSem.ClaimSeven
namespace Go.Proofs.YtdnikkmioighkaaDoor
namespace Rows

/-- THE TIED CARD OF 'laws.FnExactLeastAllWords'. -/
def fnExactLeastAllWordsCard : Claim7 := { stood := { row := fnExactLeastAllWordsRow, standIns := [], harness := (true, "16fcd4a77a8169aff4620d77606fb6fee6696346f5363deec8c9ce2b6bec1bf4"), looks := false }, kinds := [], alts := [], laidByText := true, laidKinds := [.data, .pinned], laidTests := true, laidLooks := .later }
def FnExactLeastAllWordsCardSaid : Prop := Claim7.holds Tryd.pinned (.plain (OpenSpec.ofChange fnExactLeastAllWordsSpec)) fnExactLeastAllWordsCard

/-- THE TIED CARD OF 'laws.FnAllWords'. -/
def fnAllWordsCard : Claim7 := { stood := { row := fnAllWordsRow, standIns := [], harness := (true, "16fcd4a77a8169aff4620d77606fb6fee6696346f5363deec8c9ce2b6bec1bf4"), looks := false }, kinds := [], alts := [], laidByText := true, laidKinds := [.data, .pinned], laidTests := true, laidLooks := .later }
def FnAllWordsCardSaid : Prop := Claim7.holds Tryd.pinned (.plain (OpenSpec.ofChange fnAllWordsSpec)) fnAllWordsCard

/-- THE SECOND FORM's CARD OF 'laws.FnExactLeastAllWords'. -/
def fnExactLeastAllWordsUptoCard : Claim7 := { stood := { row := fnExactLeastAllWordsUptoRow, standIns := [], harness := (true, "16fcd4a77a8169aff4620d77606fb6fee6696346f5363deec8c9ce2b6bec1bf4"), looks := false }, kinds := [], alts := [], laidByText := true, laidKinds := [.data, .pinned], laidTests := true, laidLooks := .later }
def FnExactLeastAllWordsUptoCardSaid : Prop := Claim7.holds Tryd.pinned (.plain (OpenSpec.upto fnExactLeastAllWordsSpec)) fnExactLeastAllWordsUptoCard

/-- THE SECOND FORM's CARD OF 'laws.FnAllWords'. -/
def fnAllWordsUptoCard : Claim7 := { stood := { row := fnAllWordsUptoRow, standIns := [], harness := (true, "16fcd4a77a8169aff4620d77606fb6fee6696346f5363deec8c9ce2b6bec1bf4"), looks := false }, kinds := [], alts := [], laidByText := true, laidKinds := [.data, .pinned], laidTests := true, laidLooks := .later }
def FnAllWordsUptoCardSaid : Prop := Claim7.holds Tryd.pinned (.plain (OpenSpec.upto fnAllWordsSpec)) fnAllWordsUptoCard
end Rows
end Go.Proofs.YtdnikkmioighkaaDoor
