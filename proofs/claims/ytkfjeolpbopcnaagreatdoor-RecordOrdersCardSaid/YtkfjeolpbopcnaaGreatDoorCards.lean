/-
  DERIVED. GIVEN WITH THE SEED: THE CARDS: each row of YtkfjeolpbopcnaaGreatDoorRows.lean that lists a variable, with what it lists TIED to the program's text (the seventh form; the later family's looks); each row that meets fmt, with fmt's text TOLD by the authors' own Lean function (tested against real Go, not proved from fmt's source: count such statements apart). THE CARD IS WHAT COUNTS. Prove the row's statement (the work); the ties are given (YtkfjeolpbopcnaaGreatDoorTie.lean); close each card by the builder's one call (the guide's Derived/Test/ToyasCard.lean, 'card_holds'). Laid BY PROGRAM, IN A SANDBOX (cutbox-door.mjs). By AI agents, Wed Nov 11 2026. No macro, syntax, notation, axiom, sorry.
-/
import Derived.Test.YtkfjeolpbopcnaaGreatDoorRows
import GoSem.ClaimSeven
namespace Go.Proofs.YtkfjeolpbopcnaaGreatDoor
namespace Rows

/-- THE TIED CARD OF 'librarylaw08.RecordRights'. -/
def recordRightsCard : Claim7 := { stood := { row := recordRightsRow, standIns := [], harness := (true, "9178339215fd65bc603670e95571e75088cf3981a061a479e497b3324c27deab"), looks := false }, kinds := [], alts := [], laidByText := true, laidKinds := [.data, .pinned], laidTests := true, laidLooks := .later }
def RecordRightsCardSaid : Prop := Claim7.holds Tryz.pinned (.plain (OpenSpec.ofChange recordRightsSpec)) recordRightsCard

/-- THE TIED CARD OF 'librarylaw08.RecordFields'. -/
def recordFieldsCard : Claim7 := { stood := { row := recordFieldsRow, standIns := [], harness := (true, "9178339215fd65bc603670e95571e75088cf3981a061a479e497b3324c27deab"), looks := false }, kinds := [], alts := [], laidByText := true, laidKinds := [.data, .pinned], laidTests := true, laidLooks := .later }
def RecordFieldsCardSaid : Prop := Claim7.holds Tryz.pinned (.plain (OpenSpec.ofChange recordFieldsSpec)) recordFieldsCard

/-- THE TIED CARD OF 'librarylaw08.RecordEdits'. -/
def recordEditsCard : Claim7 := { stood := { row := recordEditsRow, standIns := [], harness := (true, "9178339215fd65bc603670e95571e75088cf3981a061a479e497b3324c27deab"), looks := false }, kinds := [], alts := [], laidByText := true, laidKinds := [.data, .pinned], laidTests := true, laidLooks := .later }
def RecordEditsCardSaid : Prop := Claim7.holds Tryz.pinned (.plain (OpenSpec.ofChange recordEditsSpec)) recordEditsCard

/-- THE TIED CARD OF 'librarylaw08.RecordSorts'. -/
def recordSortsCard : Claim7 := { stood := { row := recordSortsRow, standIns := [], harness := (true, "9178339215fd65bc603670e95571e75088cf3981a061a479e497b3324c27deab"), looks := false }, kinds := [], alts := [], laidByText := true, laidKinds := [.data, .pinned], laidTests := true, laidLooks := .later }
def RecordSortsCardSaid : Prop := Claim7.holds Tryz.pinned (.plain (OpenSpec.ofChange recordSortsSpec)) recordSortsCard

/-- THE TIED CARD OF 'librarylaw08.RecordReads'. -/
def recordReadsCard : Claim7 := { stood := { row := recordReadsRow, standIns := [], harness := (true, "9178339215fd65bc603670e95571e75088cf3981a061a479e497b3324c27deab"), looks := false }, kinds := [], alts := [], laidByText := true, laidKinds := [.data, .pinned], laidTests := true, laidLooks := .later }
def RecordReadsCardSaid : Prop := Claim7.holds Tryz.pinned (.plain (OpenSpec.ofChange recordReadsSpec)) recordReadsCard

/-- THE TIED CARD OF 'librarylaw08.RecordRestores'. -/
def recordRestoresCard : Claim7 := { stood := { row := recordRestoresRow, standIns := [], harness := (true, "9178339215fd65bc603670e95571e75088cf3981a061a479e497b3324c27deab"), looks := false }, kinds := [], alts := [], laidByText := true, laidKinds := [.data, .pinned], laidTests := true, laidLooks := .later }
def RecordRestoresCardSaid : Prop := Claim7.holds Tryz.pinned (.plain (OpenSpec.ofChange recordRestoresSpec)) recordRestoresCard

/-- THE TIED CARD OF 'librarylaw08.RecordOrders'. -/
def recordOrdersCard : Claim7 := { stood := { row := recordOrdersRow, standIns := [], harness := (true, "9178339215fd65bc603670e95571e75088cf3981a061a479e497b3324c27deab"), looks := false }, kinds := [], alts := [], laidByText := true, laidKinds := [.data, .pinned], laidTests := true, laidLooks := .later }
def RecordOrdersCardSaid : Prop := Claim7.holds Tryz.pinned (.plain (OpenSpec.ofChange recordOrdersSpec)) recordOrdersCard

/-- THE SECOND FORM's CARD OF 'librarylaw08.RecordRights'. -/
def recordRightsUptoCard : Claim7 := { stood := { row := recordRightsUptoRow, standIns := [], harness := (true, "9178339215fd65bc603670e95571e75088cf3981a061a479e497b3324c27deab"), looks := false }, kinds := [], alts := [], laidByText := true, laidKinds := [.data, .pinned], laidTests := true, laidLooks := .later }
def RecordRightsUptoCardSaid : Prop := Claim7.holds Tryz.pinned (.plain (OpenSpec.upto recordRightsSpec)) recordRightsUptoCard

/-- THE SECOND FORM's CARD OF 'librarylaw08.RecordFields'. -/
def recordFieldsUptoCard : Claim7 := { stood := { row := recordFieldsUptoRow, standIns := [], harness := (true, "9178339215fd65bc603670e95571e75088cf3981a061a479e497b3324c27deab"), looks := false }, kinds := [], alts := [], laidByText := true, laidKinds := [.data, .pinned], laidTests := true, laidLooks := .later }
def RecordFieldsUptoCardSaid : Prop := Claim7.holds Tryz.pinned (.plain (OpenSpec.upto recordFieldsSpec)) recordFieldsUptoCard

/-- THE SECOND FORM's CARD OF 'librarylaw08.RecordEdits'. -/
def recordEditsUptoCard : Claim7 := { stood := { row := recordEditsUptoRow, standIns := [], harness := (true, "9178339215fd65bc603670e95571e75088cf3981a061a479e497b3324c27deab"), looks := false }, kinds := [], alts := [], laidByText := true, laidKinds := [.data, .pinned], laidTests := true, laidLooks := .later }
def RecordEditsUptoCardSaid : Prop := Claim7.holds Tryz.pinned (.plain (OpenSpec.upto recordEditsSpec)) recordEditsUptoCard

/-- THE SECOND FORM's CARD OF 'librarylaw08.RecordSorts'. -/
def recordSortsUptoCard : Claim7 := { stood := { row := recordSortsUptoRow, standIns := [], harness := (true, "9178339215fd65bc603670e95571e75088cf3981a061a479e497b3324c27deab"), looks := false }, kinds := [], alts := [], laidByText := true, laidKinds := [.data, .pinned], laidTests := true, laidLooks := .later }
def RecordSortsUptoCardSaid : Prop := Claim7.holds Tryz.pinned (.plain (OpenSpec.upto recordSortsSpec)) recordSortsUptoCard

/-- THE SECOND FORM's CARD OF 'librarylaw08.RecordReads'. -/
def recordReadsUptoCard : Claim7 := { stood := { row := recordReadsUptoRow, standIns := [], harness := (true, "9178339215fd65bc603670e95571e75088cf3981a061a479e497b3324c27deab"), looks := false }, kinds := [], alts := [], laidByText := true, laidKinds := [.data, .pinned], laidTests := true, laidLooks := .later }
def RecordReadsUptoCardSaid : Prop := Claim7.holds Tryz.pinned (.plain (OpenSpec.upto recordReadsSpec)) recordReadsUptoCard

/-- THE SECOND FORM's CARD OF 'librarylaw08.RecordRestores'. -/
def recordRestoresUptoCard : Claim7 := { stood := { row := recordRestoresUptoRow, standIns := [], harness := (true, "9178339215fd65bc603670e95571e75088cf3981a061a479e497b3324c27deab"), looks := false }, kinds := [], alts := [], laidByText := true, laidKinds := [.data, .pinned], laidTests := true, laidLooks := .later }
def RecordRestoresUptoCardSaid : Prop := Claim7.holds Tryz.pinned (.plain (OpenSpec.upto recordRestoresSpec)) recordRestoresUptoCard

/-- THE SECOND FORM's CARD OF 'librarylaw08.RecordOrders'. -/
def recordOrdersUptoCard : Claim7 := { stood := { row := recordOrdersUptoRow, standIns := [], harness := (true, "9178339215fd65bc603670e95571e75088cf3981a061a479e497b3324c27deab"), looks := false }, kinds := [], alts := [], laidByText := true, laidKinds := [.data, .pinned], laidTests := true, laidLooks := .later }
def RecordOrdersUptoCardSaid : Prop := Claim7.holds Tryz.pinned (.plain (OpenSpec.upto recordOrdersSpec)) recordOrdersUptoCard
end Rows
end Go.Proofs.YtkfjeolpbopcnaaGreatDoor
