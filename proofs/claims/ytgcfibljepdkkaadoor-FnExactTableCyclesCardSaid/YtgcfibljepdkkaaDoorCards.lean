/-
  DERIVED. GIVEN WITH THE SEED: THE CARDS: each row of YtgcfibljepdkkaaDoorRows.lean that lists a variable, with what it lists TIED to the program's text (the seventh form; the later family's looks); each row that meets fmt, with fmt's text TOLD by the authors' own Lean function (tested against real Go, not proved from fmt's source: count such statements apart). THE CARD IS WHAT COUNTS. Prove the row's statement (the work); the ties are given (YtgcfibljepdkkaaDoorTie.lean); close each card by the builder's one call (the guide's Derived/Test/ToyasCard.lean, 'card_holds'). Laid BY PROGRAM, IN A SANDBOX (cutbox-door.mjs). By AI agents, Wed Nov 11 2026. No macro, syntax, notation, axiom, sorry.
-/
import Derived.Test.YtgcfibljepdkkaaDoorRows
import GoSem.ClaimSeven
namespace Go.Proofs.YtgcfibljepdkkaaDoor
namespace Rows

/-- THE TIED CARD OF 'laws.FnExactWidthsOf'. -/
def fnExactWidthsOfCard : Claim7 := { stood := { row := fnExactWidthsOfRow, standIns := [], harness := (true, "1d375e596e08be01b3baa00c4ab77299939624416b7ecfd14a99a6d8d755a638"), looks := false }, kinds := [], alts := [], laidByText := true, laidKinds := [.data, .pinned], laidTests := true, laidLooks := .later }
def FnExactWidthsOfCardSaid : Prop := Claim7.holds Tryd.pinned (.plain (OpenSpec.ofChange fnExactWidthsOfSpec)) fnExactWidthsOfCard

/-- THE TIED CARD OF 'laws.FnExactShortestRegister'. -/
def fnExactShortestRegisterCard : Claim7 := { stood := { row := fnExactShortestRegisterRow, standIns := [], harness := (true, "1d375e596e08be01b3baa00c4ab77299939624416b7ecfd14a99a6d8d755a638"), looks := false }, kinds := [], alts := [], laidByText := true, laidKinds := [.data, .pinned], laidTests := true, laidLooks := .later }
def FnExactShortestRegisterCardSaid : Prop := Claim7.holds Tryd.pinned (.plain (OpenSpec.ofChange fnExactShortestRegisterSpec)) fnExactShortestRegisterCard

/-- THE TIED CARD OF 'laws.FnExactTableCycles'. -/
def fnExactTableCyclesCard : Claim7 := { stood := { row := fnExactTableCyclesRow, standIns := [], harness := (true, "1d375e596e08be01b3baa00c4ab77299939624416b7ecfd14a99a6d8d755a638"), looks := false }, kinds := [], alts := [], laidByText := true, laidKinds := [.data, .pinned], laidTests := true, laidLooks := .later }
def FnExactTableCyclesCardSaid : Prop := Claim7.holds Tryd.pinned (.plain (OpenSpec.ofChange fnExactTableCyclesSpec)) fnExactTableCyclesCard

/-- THE SECOND FORM's CARD OF 'laws.FnExactWidthsOf'. -/
def fnExactWidthsOfUptoCard : Claim7 := { stood := { row := fnExactWidthsOfUptoRow, standIns := [], harness := (true, "1d375e596e08be01b3baa00c4ab77299939624416b7ecfd14a99a6d8d755a638"), looks := false }, kinds := [], alts := [], laidByText := true, laidKinds := [.data, .pinned], laidTests := true, laidLooks := .later }
def FnExactWidthsOfUptoCardSaid : Prop := Claim7.holds Tryd.pinned (.plain (OpenSpec.upto fnExactWidthsOfSpec)) fnExactWidthsOfUptoCard

/-- THE SECOND FORM's CARD OF 'laws.FnExactShortestRegister'. -/
def fnExactShortestRegisterUptoCard : Claim7 := { stood := { row := fnExactShortestRegisterUptoRow, standIns := [], harness := (true, "1d375e596e08be01b3baa00c4ab77299939624416b7ecfd14a99a6d8d755a638"), looks := false }, kinds := [], alts := [], laidByText := true, laidKinds := [.data, .pinned], laidTests := true, laidLooks := .later }
def FnExactShortestRegisterUptoCardSaid : Prop := Claim7.holds Tryd.pinned (.plain (OpenSpec.upto fnExactShortestRegisterSpec)) fnExactShortestRegisterUptoCard

/-- THE SECOND FORM's CARD OF 'laws.FnExactTableCycles'. -/
def fnExactTableCyclesUptoCard : Claim7 := { stood := { row := fnExactTableCyclesUptoRow, standIns := [], harness := (true, "1d375e596e08be01b3baa00c4ab77299939624416b7ecfd14a99a6d8d755a638"), looks := false }, kinds := [], alts := [], laidByText := true, laidKinds := [.data, .pinned], laidTests := true, laidLooks := .later }
def FnExactTableCyclesUptoCardSaid : Prop := Claim7.holds Tryd.pinned (.plain (OpenSpec.upto fnExactTableCyclesSpec)) fnExactTableCyclesUptoCard
end Rows
end Go.Proofs.YtgcfibljepdkkaaDoor
