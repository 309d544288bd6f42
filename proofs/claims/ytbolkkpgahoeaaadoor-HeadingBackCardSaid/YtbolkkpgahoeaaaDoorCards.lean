/-
  DERIVED. GIVEN WITH THE SEED: THE CARDS: each row of YtbolkkpgahoeaaaDoorRows.lean that lists a variable, with what it lists TIED to the program's text (the seventh form; the later family's looks); each row that meets fmt, with fmt's text TOLD by the authors' own Lean function (tested against real Go, not proved from fmt's source: count such statements apart). THE CARD IS WHAT COUNTS. Prove the row's statement (the work); the ties are given (YtbolkkpgahoeaaaDoorTie.lean); close each card by the builder's one call (the guide's Derived/Test/ToyasCard.lean, 'card_holds'). Laid BY PROGRAM, IN A SANDBOX (cutbox-door.mjs). By AI agents, Wed Nov 11 2026. No macro, syntax, notation, axiom, sorry.
-/
import Derived.Test.YtbolkkpgahoeaaaDoorRows
import GoSem.ClaimSeven
namespace Go.Proofs.YtbolkkpgahoeaaaDoor
namespace Rows

/-- THE TIED CARD OF 'librarylaw12.HeadingParts'. -/
def headingPartsCard : Claim7 := { stood := { row := headingPartsRow, standIns := [], harness := (true, "7ea511eb57ad8f9386bb546daf7e34a4586e11600b9de562d23c2d66136b7b6c"), looks := false }, kinds := [], alts := [], laidByText := true, laidKinds := [.data, .pinned], laidTests := true, laidLooks := .later }
def HeadingPartsCardSaid : Prop := Claim7.holds Tryd.pinned (.plain (OpenSpec.ofChange headingPartsSpec)) headingPartsCard

/-- THE TIED CARD OF 'librarylaw12.HeadingNorms'. -/
def headingNormsCard : Claim7 := { stood := { row := headingNormsRow, standIns := [], harness := (true, "7ea511eb57ad8f9386bb546daf7e34a4586e11600b9de562d23c2d66136b7b6c"), looks := false }, kinds := [], alts := [], laidByText := true, laidKinds := [.data, .pinned], laidTests := true, laidLooks := .later }
def HeadingNormsCardSaid : Prop := Claim7.holds Tryd.pinned (.plain (OpenSpec.ofChange headingNormsSpec)) headingNormsCard

/-- THE TIED CARD OF 'librarylaw12.HeadingJoins'. -/
def headingJoinsCard : Claim7 := { stood := { row := headingJoinsRow, standIns := [], harness := (true, "7ea511eb57ad8f9386bb546daf7e34a4586e11600b9de562d23c2d66136b7b6c"), looks := false }, kinds := [], alts := [], laidByText := true, laidKinds := [.data, .pinned], laidTests := true, laidLooks := .later }
def HeadingJoinsCardSaid : Prop := Claim7.holds Tryd.pinned (.plain (OpenSpec.ofChange headingJoinsSpec)) headingJoinsCard

/-- THE TIED CARD OF 'librarylaw12.HeadingAbove'. -/
def headingAboveCard : Claim7 := { stood := { row := headingAboveRow, standIns := [], harness := (true, "7ea511eb57ad8f9386bb546daf7e34a4586e11600b9de562d23c2d66136b7b6c"), looks := false }, kinds := [], alts := [], laidByText := true, laidKinds := [.data, .pinned], laidTests := true, laidLooks := .later }
def HeadingAboveCardSaid : Prop := Claim7.holds Tryd.pinned (.plain (OpenSpec.ofChange headingAboveSpec)) headingAboveCard

/-- THE TIED CARD OF 'librarylaw12.HeadingNames'. -/
def headingNamesCard : Claim7 := { stood := { row := headingNamesRow, standIns := [], harness := (true, "7ea511eb57ad8f9386bb546daf7e34a4586e11600b9de562d23c2d66136b7b6c"), looks := false }, kinds := [], alts := [], laidByText := true, laidKinds := [.data, .pinned], laidTests := true, laidLooks := .later }
def HeadingNamesCardSaid : Prop := Claim7.holds Tryd.pinned (.plain (OpenSpec.ofChange headingNamesSpec)) headingNamesCard

/-- THE TIED CARD OF 'librarylaw12.HeadingTexts'. -/
def headingTextsCard : Claim7 := { stood := { row := headingTextsRow, standIns := [], harness := (true, "7ea511eb57ad8f9386bb546daf7e34a4586e11600b9de562d23c2d66136b7b6c"), looks := false }, kinds := [], alts := [], laidByText := true, laidKinds := [.data, .pinned], laidTests := true, laidLooks := .later }
def HeadingTextsCardSaid : Prop := Claim7.holds Tryd.pinned (.plain (OpenSpec.ofChange headingTextsSpec)) headingTextsCard

/-- THE TIED CARD OF 'librarylaw12.HeadingAgain'. -/
def headingAgainCard : Claim7 := { stood := { row := headingAgainRow, standIns := [], harness := (true, "7ea511eb57ad8f9386bb546daf7e34a4586e11600b9de562d23c2d66136b7b6c"), looks := false }, kinds := [], alts := [], laidByText := true, laidKinds := [.data, .pinned], laidTests := true, laidLooks := .later }
def HeadingAgainCardSaid : Prop := Claim7.holds Tryd.pinned (.plain (OpenSpec.ofChange headingAgainSpec)) headingAgainCard

/-- THE TIED CARD OF 'librarylaw12.HeadingBack'. -/
def headingBackCard : Claim7 := { stood := { row := headingBackRow, standIns := [], harness := (true, "7ea511eb57ad8f9386bb546daf7e34a4586e11600b9de562d23c2d66136b7b6c"), looks := false }, kinds := [], alts := [], laidByText := true, laidKinds := [.data, .pinned], laidTests := true, laidLooks := .later }
def HeadingBackCardSaid : Prop := Claim7.holds Tryd.pinned (.plain (OpenSpec.ofChange headingBackSpec)) headingBackCard

/-- THE SECOND FORM's CARD OF 'librarylaw12.HeadingParts'. -/
def headingPartsUptoCard : Claim7 := { stood := { row := headingPartsUptoRow, standIns := [], harness := (true, "7ea511eb57ad8f9386bb546daf7e34a4586e11600b9de562d23c2d66136b7b6c"), looks := false }, kinds := [], alts := [], laidByText := true, laidKinds := [.data, .pinned], laidTests := true, laidLooks := .later }
def HeadingPartsUptoCardSaid : Prop := Claim7.holds Tryd.pinned (.plain (OpenSpec.upto headingPartsSpec)) headingPartsUptoCard

/-- THE SECOND FORM's CARD OF 'librarylaw12.HeadingNorms'. -/
def headingNormsUptoCard : Claim7 := { stood := { row := headingNormsUptoRow, standIns := [], harness := (true, "7ea511eb57ad8f9386bb546daf7e34a4586e11600b9de562d23c2d66136b7b6c"), looks := false }, kinds := [], alts := [], laidByText := true, laidKinds := [.data, .pinned], laidTests := true, laidLooks := .later }
def HeadingNormsUptoCardSaid : Prop := Claim7.holds Tryd.pinned (.plain (OpenSpec.upto headingNormsSpec)) headingNormsUptoCard

/-- THE SECOND FORM's CARD OF 'librarylaw12.HeadingJoins'. -/
def headingJoinsUptoCard : Claim7 := { stood := { row := headingJoinsUptoRow, standIns := [], harness := (true, "7ea511eb57ad8f9386bb546daf7e34a4586e11600b9de562d23c2d66136b7b6c"), looks := false }, kinds := [], alts := [], laidByText := true, laidKinds := [.data, .pinned], laidTests := true, laidLooks := .later }
def HeadingJoinsUptoCardSaid : Prop := Claim7.holds Tryd.pinned (.plain (OpenSpec.upto headingJoinsSpec)) headingJoinsUptoCard

/-- THE SECOND FORM's CARD OF 'librarylaw12.HeadingAbove'. -/
def headingAboveUptoCard : Claim7 := { stood := { row := headingAboveUptoRow, standIns := [], harness := (true, "7ea511eb57ad8f9386bb546daf7e34a4586e11600b9de562d23c2d66136b7b6c"), looks := false }, kinds := [], alts := [], laidByText := true, laidKinds := [.data, .pinned], laidTests := true, laidLooks := .later }
def HeadingAboveUptoCardSaid : Prop := Claim7.holds Tryd.pinned (.plain (OpenSpec.upto headingAboveSpec)) headingAboveUptoCard

/-- THE SECOND FORM's CARD OF 'librarylaw12.HeadingNames'. -/
def headingNamesUptoCard : Claim7 := { stood := { row := headingNamesUptoRow, standIns := [], harness := (true, "7ea511eb57ad8f9386bb546daf7e34a4586e11600b9de562d23c2d66136b7b6c"), looks := false }, kinds := [], alts := [], laidByText := true, laidKinds := [.data, .pinned], laidTests := true, laidLooks := .later }
def HeadingNamesUptoCardSaid : Prop := Claim7.holds Tryd.pinned (.plain (OpenSpec.upto headingNamesSpec)) headingNamesUptoCard

/-- THE SECOND FORM's CARD OF 'librarylaw12.HeadingTexts'. -/
def headingTextsUptoCard : Claim7 := { stood := { row := headingTextsUptoRow, standIns := [], harness := (true, "7ea511eb57ad8f9386bb546daf7e34a4586e11600b9de562d23c2d66136b7b6c"), looks := false }, kinds := [], alts := [], laidByText := true, laidKinds := [.data, .pinned], laidTests := true, laidLooks := .later }
def HeadingTextsUptoCardSaid : Prop := Claim7.holds Tryd.pinned (.plain (OpenSpec.upto headingTextsSpec)) headingTextsUptoCard

/-- THE SECOND FORM's CARD OF 'librarylaw12.HeadingAgain'. -/
def headingAgainUptoCard : Claim7 := { stood := { row := headingAgainUptoRow, standIns := [], harness := (true, "7ea511eb57ad8f9386bb546daf7e34a4586e11600b9de562d23c2d66136b7b6c"), looks := false }, kinds := [], alts := [], laidByText := true, laidKinds := [.data, .pinned], laidTests := true, laidLooks := .later }
def HeadingAgainUptoCardSaid : Prop := Claim7.holds Tryd.pinned (.plain (OpenSpec.upto headingAgainSpec)) headingAgainUptoCard

/-- THE SECOND FORM's CARD OF 'librarylaw12.HeadingBack'. -/
def headingBackUptoCard : Claim7 := { stood := { row := headingBackUptoRow, standIns := [], harness := (true, "7ea511eb57ad8f9386bb546daf7e34a4586e11600b9de562d23c2d66136b7b6c"), looks := false }, kinds := [], alts := [], laidByText := true, laidKinds := [.data, .pinned], laidTests := true, laidLooks := .later }
def HeadingBackUptoCardSaid : Prop := Claim7.holds Tryd.pinned (.plain (OpenSpec.upto headingBackSpec)) headingBackUptoCard
end Rows
end Go.Proofs.YtbolkkpgahoeaaaDoor
