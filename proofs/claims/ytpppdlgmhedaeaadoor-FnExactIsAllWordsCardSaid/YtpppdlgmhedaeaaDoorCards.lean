/-
  DERIVED. GIVEN WITH THE SEED: THE CARDS: each row of YtpppdlgmhedaeaaDoorRows.lean that lists a variable, with what it lists TIED to the program's text (the seventh form; the later family's looks); each row that meets fmt, with fmt's text TOLD by the authors' own Lean function (tested against real Go, not proved from fmt's source: count such statements apart). THE CARD IS WHAT COUNTS. Prove the row's statement (the work); the ties are given (YtpppdlgmhedaeaaDoorTie.lean); close each card by the builder's one call (the guide's Derived/Test/ToyasCard.lean, 'card_holds'). Laid BY PROGRAM, IN A SANDBOX (cutbox-door.mjs). By AI agents, Wed Nov 11 2026. No macro, syntax, notation, axiom, sorry.
-/
import Derived.Test.YtpppdlgmhedaeaaDoorRows
import GoSem.ClaimSeven
namespace Go.Proofs.YtpppdlgmhedaeaaDoor
namespace Rows

/-- THE TIED CARD OF 'laws.FnExactDecimal'. -/
def fnExactDecimalCard : Claim7 := { stood := { row := fnExactDecimalRow, standIns := [], harness := (true, "88ee8f5dfc13573e6b1e2d51ceb31ff15468942a066caa7ea6ab794b0ebf7d98"), looks := false }, kinds := [], alts := [], laidByText := true, laidKinds := [.data, .data, .data], laidTests := true, laidLooks := .later }
def FnExactDecimalCardSaid : Prop := Claim7.holds Tryd.pinned (.plain (OpenSpec.ofChange fnExactDecimalSpec)) fnExactDecimalCard

/-- THE TIED CARD OF 'laws.FnExactIsBits'. -/
def fnExactIsBitsCard : Claim7 := { stood := { row := fnExactIsBitsRow, standIns := [], harness := (true, "88ee8f5dfc13573e6b1e2d51ceb31ff15468942a066caa7ea6ab794b0ebf7d98"), looks := false }, kinds := [], alts := [], laidByText := true, laidKinds := [.data, .pinned], laidTests := true, laidLooks := .later }
def FnExactIsBitsCardSaid : Prop := Claim7.holds Tryd.pinned (.plain (OpenSpec.ofChange fnExactIsBitsSpec)) fnExactIsBitsCard

/-- THE TIED CARD OF 'laws.FnExactTakeEvery'. -/
def fnExactTakeEveryCard : Claim7 := { stood := { row := fnExactTakeEveryRow, standIns := [], harness := (true, "88ee8f5dfc13573e6b1e2d51ceb31ff15468942a066caa7ea6ab794b0ebf7d98"), looks := false }, kinds := [], alts := [], laidByText := true, laidKinds := [.data, .pinned], laidTests := true, laidLooks := .later }
def FnExactTakeEveryCardSaid : Prop := Claim7.holds Tryd.pinned (.plain (OpenSpec.ofChange fnExactTakeEverySpec)) fnExactTakeEveryCard

/-- THE TIED CARD OF 'laws.FnExactXorBits'. -/
def fnExactXorBitsCard : Claim7 := { stood := { row := fnExactXorBitsRow, standIns := [], harness := (true, "88ee8f5dfc13573e6b1e2d51ceb31ff15468942a066caa7ea6ab794b0ebf7d98"), looks := false }, kinds := [], alts := [], laidByText := true, laidKinds := [.data, .pinned], laidTests := true, laidLooks := .later }
def FnExactXorBitsCardSaid : Prop := Claim7.holds Tryd.pinned (.plain (OpenSpec.ofChange fnExactXorBitsSpec)) fnExactXorBitsCard

/-- THE TIED CARD OF 'laws.FnExactNumberOfBits'. -/
def fnExactNumberOfBitsCard : Claim7 := { stood := { row := fnExactNumberOfBitsRow, standIns := [], harness := (true, "88ee8f5dfc13573e6b1e2d51ceb31ff15468942a066caa7ea6ab794b0ebf7d98"), looks := false }, kinds := [], alts := [], laidByText := true, laidKinds := [.data, .pinned], laidTests := true, laidLooks := .later }
def FnExactNumberOfBitsCardSaid : Prop := Claim7.holds Tryd.pinned (.plain (OpenSpec.ofChange fnExactNumberOfBitsSpec)) fnExactNumberOfBitsCard

/-- THE TIED CARD OF 'laws.FnExactIsAllWords'. -/
def fnExactIsAllWordsCard : Claim7 := { stood := { row := fnExactIsAllWordsRow, standIns := [], harness := (true, "88ee8f5dfc13573e6b1e2d51ceb31ff15468942a066caa7ea6ab794b0ebf7d98"), looks := false }, kinds := [], alts := [], laidByText := true, laidKinds := [.data, .pinned], laidTests := true, laidLooks := .later }
def FnExactIsAllWordsCardSaid : Prop := Claim7.holds Tryd.pinned (.plain (OpenSpec.ofChange fnExactIsAllWordsSpec)) fnExactIsAllWordsCard

/-- THE TIED CARD OF 'laws.FnExactRunLengths'. -/
def fnExactRunLengthsCard : Claim7 := { stood := { row := fnExactRunLengthsRow, standIns := [], harness := (true, "88ee8f5dfc13573e6b1e2d51ceb31ff15468942a066caa7ea6ab794b0ebf7d98"), looks := false }, kinds := [], alts := [], laidByText := true, laidKinds := [.data, .pinned], laidTests := true, laidLooks := .later }
def FnExactRunLengthsCardSaid : Prop := Claim7.holds Tryd.pinned (.plain (OpenSpec.ofChange fnExactRunLengthsSpec)) fnExactRunLengthsCard

/-- THE TIED CARD OF 'laws.FnExactAgreementsOf'. -/
def fnExactAgreementsOfCard : Claim7 := { stood := { row := fnExactAgreementsOfRow, standIns := [], harness := (true, "88ee8f5dfc13573e6b1e2d51ceb31ff15468942a066caa7ea6ab794b0ebf7d98"), looks := false }, kinds := [], alts := [], laidByText := true, laidKinds := [.data, .pinned], laidTests := true, laidLooks := .later }
def FnExactAgreementsOfCardSaid : Prop := Claim7.holds Tryd.pinned (.plain (OpenSpec.ofChange fnExactAgreementsOfSpec)) fnExactAgreementsOfCard

/-- THE TIED CARD OF 'laws.FnExactOnesOf'. -/
def fnExactOnesOfCard : Claim7 := { stood := { row := fnExactOnesOfRow, standIns := [], harness := (true, "88ee8f5dfc13573e6b1e2d51ceb31ff15468942a066caa7ea6ab794b0ebf7d98"), looks := false }, kinds := [], alts := [], laidByText := true, laidKinds := [.data, .pinned], laidTests := true, laidLooks := .later }
def FnExactOnesOfCardSaid : Prop := Claim7.holds Tryd.pinned (.plain (OpenSpec.ofChange fnExactOnesOfSpec)) fnExactOnesOfCard

/-- THE TIED CARD OF 'laws.FnBits'. -/
def fnBitsCard : Claim7 := { stood := { row := fnBitsRow, standIns := [], harness := (true, "88ee8f5dfc13573e6b1e2d51ceb31ff15468942a066caa7ea6ab794b0ebf7d98"), looks := false }, kinds := [], alts := [], laidByText := true, laidKinds := [.data, .pinned], laidTests := true, laidLooks := .later }
def FnBitsCardSaid : Prop := Claim7.holds Tryd.pinned (.plain (OpenSpec.ofChange fnBitsSpec)) fnBitsCard

/-- THE TIED CARD OF 'laws.FnExactLeastAllWords'. -/
def fnExactLeastAllWordsCard : Claim7 := { stood := { row := fnExactLeastAllWordsRow, standIns := [], harness := (true, "88ee8f5dfc13573e6b1e2d51ceb31ff15468942a066caa7ea6ab794b0ebf7d98"), looks := false }, kinds := [], alts := [], laidByText := true, laidKinds := [.data, .pinned], laidTests := true, laidLooks := .later }
def FnExactLeastAllWordsCardSaid : Prop := Claim7.holds Tryd.pinned (.plain (OpenSpec.ofChange fnExactLeastAllWordsSpec)) fnExactLeastAllWordsCard

/-- THE TIED CARD OF 'laws.FnAllWords'. -/
def fnAllWordsCard : Claim7 := { stood := { row := fnAllWordsRow, standIns := [], harness := (true, "88ee8f5dfc13573e6b1e2d51ceb31ff15468942a066caa7ea6ab794b0ebf7d98"), looks := false }, kinds := [], alts := [], laidByText := true, laidKinds := [.data, .pinned], laidTests := true, laidLooks := .later }
def FnAllWordsCardSaid : Prop := Claim7.holds Tryd.pinned (.plain (OpenSpec.ofChange fnAllWordsSpec)) fnAllWordsCard

/-- THE SECOND FORM's CARD OF 'laws.FnExactDecimal'. -/
def fnExactDecimalUptoCard : Claim7 := { stood := { row := fnExactDecimalUptoRow, standIns := [], harness := (true, "88ee8f5dfc13573e6b1e2d51ceb31ff15468942a066caa7ea6ab794b0ebf7d98"), looks := false }, kinds := [], alts := [], laidByText := true, laidKinds := [.data, .data, .data], laidTests := true, laidLooks := .later }
def FnExactDecimalUptoCardSaid : Prop := Claim7.holds Tryd.pinned (.plain (OpenSpec.upto fnExactDecimalSpec)) fnExactDecimalUptoCard

/-- THE SECOND FORM's CARD OF 'laws.FnExactIsBits'. -/
def fnExactIsBitsUptoCard : Claim7 := { stood := { row := fnExactIsBitsUptoRow, standIns := [], harness := (true, "88ee8f5dfc13573e6b1e2d51ceb31ff15468942a066caa7ea6ab794b0ebf7d98"), looks := false }, kinds := [], alts := [], laidByText := true, laidKinds := [.data, .pinned], laidTests := true, laidLooks := .later }
def FnExactIsBitsUptoCardSaid : Prop := Claim7.holds Tryd.pinned (.plain (OpenSpec.upto fnExactIsBitsSpec)) fnExactIsBitsUptoCard

/-- THE SECOND FORM's CARD OF 'laws.FnExactTakeEvery'. -/
def fnExactTakeEveryUptoCard : Claim7 := { stood := { row := fnExactTakeEveryUptoRow, standIns := [], harness := (true, "88ee8f5dfc13573e6b1e2d51ceb31ff15468942a066caa7ea6ab794b0ebf7d98"), looks := false }, kinds := [], alts := [], laidByText := true, laidKinds := [.data, .pinned], laidTests := true, laidLooks := .later }
def FnExactTakeEveryUptoCardSaid : Prop := Claim7.holds Tryd.pinned (.plain (OpenSpec.upto fnExactTakeEverySpec)) fnExactTakeEveryUptoCard

/-- THE SECOND FORM's CARD OF 'laws.FnExactXorBits'. -/
def fnExactXorBitsUptoCard : Claim7 := { stood := { row := fnExactXorBitsUptoRow, standIns := [], harness := (true, "88ee8f5dfc13573e6b1e2d51ceb31ff15468942a066caa7ea6ab794b0ebf7d98"), looks := false }, kinds := [], alts := [], laidByText := true, laidKinds := [.data, .pinned], laidTests := true, laidLooks := .later }
def FnExactXorBitsUptoCardSaid : Prop := Claim7.holds Tryd.pinned (.plain (OpenSpec.upto fnExactXorBitsSpec)) fnExactXorBitsUptoCard

/-- THE SECOND FORM's CARD OF 'laws.FnExactNumberOfBits'. -/
def fnExactNumberOfBitsUptoCard : Claim7 := { stood := { row := fnExactNumberOfBitsUptoRow, standIns := [], harness := (true, "88ee8f5dfc13573e6b1e2d51ceb31ff15468942a066caa7ea6ab794b0ebf7d98"), looks := false }, kinds := [], alts := [], laidByText := true, laidKinds := [.data, .pinned], laidTests := true, laidLooks := .later }
def FnExactNumberOfBitsUptoCardSaid : Prop := Claim7.holds Tryd.pinned (.plain (OpenSpec.upto fnExactNumberOfBitsSpec)) fnExactNumberOfBitsUptoCard

/-- THE SECOND FORM's CARD OF 'laws.FnExactIsAllWords'. -/
def fnExactIsAllWordsUptoCard : Claim7 := { stood := { row := fnExactIsAllWordsUptoRow, standIns := [], harness := (true, "88ee8f5dfc13573e6b1e2d51ceb31ff15468942a066caa7ea6ab794b0ebf7d98"), looks := false }, kinds := [], alts := [], laidByText := true, laidKinds := [.data, .pinned], laidTests := true, laidLooks := .later }
def FnExactIsAllWordsUptoCardSaid : Prop := Claim7.holds Tryd.pinned (.plain (OpenSpec.upto fnExactIsAllWordsSpec)) fnExactIsAllWordsUptoCard

/-- THE SECOND FORM's CARD OF 'laws.FnExactRunLengths'. -/
def fnExactRunLengthsUptoCard : Claim7 := { stood := { row := fnExactRunLengthsUptoRow, standIns := [], harness := (true, "88ee8f5dfc13573e6b1e2d51ceb31ff15468942a066caa7ea6ab794b0ebf7d98"), looks := false }, kinds := [], alts := [], laidByText := true, laidKinds := [.data, .pinned], laidTests := true, laidLooks := .later }
def FnExactRunLengthsUptoCardSaid : Prop := Claim7.holds Tryd.pinned (.plain (OpenSpec.upto fnExactRunLengthsSpec)) fnExactRunLengthsUptoCard

/-- THE SECOND FORM's CARD OF 'laws.FnExactAgreementsOf'. -/
def fnExactAgreementsOfUptoCard : Claim7 := { stood := { row := fnExactAgreementsOfUptoRow, standIns := [], harness := (true, "88ee8f5dfc13573e6b1e2d51ceb31ff15468942a066caa7ea6ab794b0ebf7d98"), looks := false }, kinds := [], alts := [], laidByText := true, laidKinds := [.data, .pinned], laidTests := true, laidLooks := .later }
def FnExactAgreementsOfUptoCardSaid : Prop := Claim7.holds Tryd.pinned (.plain (OpenSpec.upto fnExactAgreementsOfSpec)) fnExactAgreementsOfUptoCard

/-- THE SECOND FORM's CARD OF 'laws.FnExactOnesOf'. -/
def fnExactOnesOfUptoCard : Claim7 := { stood := { row := fnExactOnesOfUptoRow, standIns := [], harness := (true, "88ee8f5dfc13573e6b1e2d51ceb31ff15468942a066caa7ea6ab794b0ebf7d98"), looks := false }, kinds := [], alts := [], laidByText := true, laidKinds := [.data, .pinned], laidTests := true, laidLooks := .later }
def FnExactOnesOfUptoCardSaid : Prop := Claim7.holds Tryd.pinned (.plain (OpenSpec.upto fnExactOnesOfSpec)) fnExactOnesOfUptoCard

/-- THE SECOND FORM's CARD OF 'laws.FnBits'. -/
def fnBitsUptoCard : Claim7 := { stood := { row := fnBitsUptoRow, standIns := [], harness := (true, "88ee8f5dfc13573e6b1e2d51ceb31ff15468942a066caa7ea6ab794b0ebf7d98"), looks := false }, kinds := [], alts := [], laidByText := true, laidKinds := [.data, .pinned], laidTests := true, laidLooks := .later }
def FnBitsUptoCardSaid : Prop := Claim7.holds Tryd.pinned (.plain (OpenSpec.upto fnBitsSpec)) fnBitsUptoCard

/-- THE SECOND FORM's CARD OF 'laws.FnExactLeastAllWords'. -/
def fnExactLeastAllWordsUptoCard : Claim7 := { stood := { row := fnExactLeastAllWordsUptoRow, standIns := [], harness := (true, "88ee8f5dfc13573e6b1e2d51ceb31ff15468942a066caa7ea6ab794b0ebf7d98"), looks := false }, kinds := [], alts := [], laidByText := true, laidKinds := [.data, .pinned], laidTests := true, laidLooks := .later }
def FnExactLeastAllWordsUptoCardSaid : Prop := Claim7.holds Tryd.pinned (.plain (OpenSpec.upto fnExactLeastAllWordsSpec)) fnExactLeastAllWordsUptoCard

/-- THE SECOND FORM's CARD OF 'laws.FnAllWords'. -/
def fnAllWordsUptoCard : Claim7 := { stood := { row := fnAllWordsUptoRow, standIns := [], harness := (true, "88ee8f5dfc13573e6b1e2d51ceb31ff15468942a066caa7ea6ab794b0ebf7d98"), looks := false }, kinds := [], alts := [], laidByText := true, laidKinds := [.data, .pinned], laidTests := true, laidLooks := .later }
def FnAllWordsUptoCardSaid : Prop := Claim7.holds Tryd.pinned (.plain (OpenSpec.upto fnAllWordsSpec)) fnAllWordsUptoCard
end Rows
end Go.Proofs.YtpppdlgmhedaeaaDoor
