/-
  DERIVED. GIVEN WITH THE SEED: THE CARDS: each row of YtlpeppigebbfkaaDoorRows.lean that lists a variable, with what it lists TIED to the program's text (the seventh form; the later family's looks); each row that meets fmt, with fmt's text TOLD by the authors' own Lean function (tested against real Go, not proved from fmt's source: count such statements apart). THE CARD IS WHAT COUNTS. Prove the row's statement (the work); the ties are given (YtlpeppigebbfkaaDoorTie.lean); close each card by the builder's one call (the guide's Derived/Test/ToyasCard.lean, 'card_holds'). Laid BY PROGRAM, IN A SANDBOX (cutbox-door.mjs). By AI agents, Wed Nov 11 2026. No macro, syntax, notation, axiom, sorry.
-/
import Derived.Test.YtlpeppigebbfkaaDoorRows
import GoSem.ClaimSeven
namespace Go.Proofs.YtlpeppigebbfkaaDoor
namespace Rows

/-- THE TIED CARD OF 'librarylaw28.PatronRight'. -/
def patronRightCard : Claim7 := { stood := { row := patronRightRow, standIns := [], harness := (true, "a17d9c86a2ac90d005e95ce8796f81cefc9f0d49426ba1ffe81eef1f733ca8db"), looks := false }, kinds := [], alts := [], laidByText := true, laidKinds := [.data, .pinned], laidTests := true, laidLooks := .later }
def PatronRightCardSaid : Prop := Claim7.holds Tryd.pinned (.plain (OpenSpec.ofChange patronRightSpec)) patronRightCard

/-- THE TIED CARD OF 'librarylaw28.PatronAdds'. -/
def patronAddsCard : Claim7 := { stood := { row := patronAddsRow, standIns := [], harness := (true, "a17d9c86a2ac90d005e95ce8796f81cefc9f0d49426ba1ffe81eef1f733ca8db"), looks := false }, kinds := [], alts := [], laidByText := true, laidKinds := [.data, .pinned], laidTests := true, laidLooks := .later }
def PatronAddsCardSaid : Prop := Claim7.holds Tryd.pinned (.plain (OpenSpec.ofChange patronAddsSpec)) patronAddsCard

/-- THE TIED CARD OF 'librarylaw28.PatronReasons'. -/
def patronReasonsCard : Claim7 := { stood := { row := patronReasonsRow, standIns := [], harness := (true, "a17d9c86a2ac90d005e95ce8796f81cefc9f0d49426ba1ffe81eef1f733ca8db"), looks := false }, kinds := [], alts := [], laidByText := true, laidKinds := [.data, .pinned], laidTests := true, laidLooks := .later }
def PatronReasonsCardSaid : Prop := Claim7.holds Tryd.pinned (.plain (OpenSpec.ofChange patronReasonsSpec)) patronReasonsCard

/-- THE TIED CARD OF 'librarylaw28.PatronSearch'. -/
def patronSearchCard : Claim7 := { stood := { row := patronSearchRow, standIns := [], harness := (true, "a17d9c86a2ac90d005e95ce8796f81cefc9f0d49426ba1ffe81eef1f733ca8db"), looks := false }, kinds := [], alts := [], laidByText := true, laidKinds := [.data, .pinned], laidTests := true, laidLooks := .later }
def PatronSearchCardSaid : Prop := Claim7.holds Tryd.pinned (.plain (OpenSpec.ofChange patronSearchSpec)) patronSearchCard

/-- THE TIED CARD OF 'librarylaw28.PatronGets'. -/
def patronGetsCard : Claim7 := { stood := { row := patronGetsRow, standIns := [], harness := (true, "a17d9c86a2ac90d005e95ce8796f81cefc9f0d49426ba1ffe81eef1f733ca8db"), looks := false }, kinds := [], alts := [], laidByText := true, laidKinds := [.data, .pinned], laidTests := true, laidLooks := .later }
def PatronGetsCardSaid : Prop := Claim7.holds Tryd.pinned (.plain (OpenSpec.ofChange patronGetsSpec)) patronGetsCard

/-- THE TIED CARD OF 'librarylaw28.PatronBack'. -/
def patronBackCard : Claim7 := { stood := { row := patronBackRow, standIns := [], harness := (true, "a17d9c86a2ac90d005e95ce8796f81cefc9f0d49426ba1ffe81eef1f733ca8db"), looks := false }, kinds := [], alts := [], laidByText := true, laidKinds := [.data, .pinned], laidTests := true, laidLooks := .later }
def PatronBackCardSaid : Prop := Claim7.holds Tryd.pinned (.plain (OpenSpec.ofChange patronBackSpec)) patronBackCard

/-- THE TIED CARD OF 'librarylaw28.PatronReplaces'. -/
def patronReplacesCard : Claim7 := { stood := { row := patronReplacesRow, standIns := [], harness := (true, "a17d9c86a2ac90d005e95ce8796f81cefc9f0d49426ba1ffe81eef1f733ca8db"), looks := false }, kinds := [], alts := [], laidByText := true, laidKinds := [.data, .pinned], laidTests := true, laidLooks := .later }
def PatronReplacesCardSaid : Prop := Claim7.holds Tryd.pinned (.plain (OpenSpec.ofChange patronReplacesSpec)) patronReplacesCard

/-- THE SECOND FORM's CARD OF 'librarylaw28.PatronRight'. -/
def patronRightUptoCard : Claim7 := { stood := { row := patronRightUptoRow, standIns := [], harness := (true, "a17d9c86a2ac90d005e95ce8796f81cefc9f0d49426ba1ffe81eef1f733ca8db"), looks := false }, kinds := [], alts := [], laidByText := true, laidKinds := [.data, .pinned], laidTests := true, laidLooks := .later }
def PatronRightUptoCardSaid : Prop := Claim7.holds Tryd.pinned (.plain (OpenSpec.upto patronRightSpec)) patronRightUptoCard

/-- THE SECOND FORM's CARD OF 'librarylaw28.PatronAdds'. -/
def patronAddsUptoCard : Claim7 := { stood := { row := patronAddsUptoRow, standIns := [], harness := (true, "a17d9c86a2ac90d005e95ce8796f81cefc9f0d49426ba1ffe81eef1f733ca8db"), looks := false }, kinds := [], alts := [], laidByText := true, laidKinds := [.data, .pinned], laidTests := true, laidLooks := .later }
def PatronAddsUptoCardSaid : Prop := Claim7.holds Tryd.pinned (.plain (OpenSpec.upto patronAddsSpec)) patronAddsUptoCard

/-- THE SECOND FORM's CARD OF 'librarylaw28.PatronReasons'. -/
def patronReasonsUptoCard : Claim7 := { stood := { row := patronReasonsUptoRow, standIns := [], harness := (true, "a17d9c86a2ac90d005e95ce8796f81cefc9f0d49426ba1ffe81eef1f733ca8db"), looks := false }, kinds := [], alts := [], laidByText := true, laidKinds := [.data, .pinned], laidTests := true, laidLooks := .later }
def PatronReasonsUptoCardSaid : Prop := Claim7.holds Tryd.pinned (.plain (OpenSpec.upto patronReasonsSpec)) patronReasonsUptoCard

/-- THE SECOND FORM's CARD OF 'librarylaw28.PatronSearch'. -/
def patronSearchUptoCard : Claim7 := { stood := { row := patronSearchUptoRow, standIns := [], harness := (true, "a17d9c86a2ac90d005e95ce8796f81cefc9f0d49426ba1ffe81eef1f733ca8db"), looks := false }, kinds := [], alts := [], laidByText := true, laidKinds := [.data, .pinned], laidTests := true, laidLooks := .later }
def PatronSearchUptoCardSaid : Prop := Claim7.holds Tryd.pinned (.plain (OpenSpec.upto patronSearchSpec)) patronSearchUptoCard

/-- THE SECOND FORM's CARD OF 'librarylaw28.PatronGets'. -/
def patronGetsUptoCard : Claim7 := { stood := { row := patronGetsUptoRow, standIns := [], harness := (true, "a17d9c86a2ac90d005e95ce8796f81cefc9f0d49426ba1ffe81eef1f733ca8db"), looks := false }, kinds := [], alts := [], laidByText := true, laidKinds := [.data, .pinned], laidTests := true, laidLooks := .later }
def PatronGetsUptoCardSaid : Prop := Claim7.holds Tryd.pinned (.plain (OpenSpec.upto patronGetsSpec)) patronGetsUptoCard

/-- THE SECOND FORM's CARD OF 'librarylaw28.PatronBack'. -/
def patronBackUptoCard : Claim7 := { stood := { row := patronBackUptoRow, standIns := [], harness := (true, "a17d9c86a2ac90d005e95ce8796f81cefc9f0d49426ba1ffe81eef1f733ca8db"), looks := false }, kinds := [], alts := [], laidByText := true, laidKinds := [.data, .pinned], laidTests := true, laidLooks := .later }
def PatronBackUptoCardSaid : Prop := Claim7.holds Tryd.pinned (.plain (OpenSpec.upto patronBackSpec)) patronBackUptoCard

/-- THE SECOND FORM's CARD OF 'librarylaw28.PatronReplaces'. -/
def patronReplacesUptoCard : Claim7 := { stood := { row := patronReplacesUptoRow, standIns := [], harness := (true, "a17d9c86a2ac90d005e95ce8796f81cefc9f0d49426ba1ffe81eef1f733ca8db"), looks := false }, kinds := [], alts := [], laidByText := true, laidKinds := [.data, .pinned], laidTests := true, laidLooks := .later }
def PatronReplacesUptoCardSaid : Prop := Claim7.holds Tryd.pinned (.plain (OpenSpec.upto patronReplacesSpec)) patronReplacesUptoCard
end Rows
end Go.Proofs.YtlpeppigebbfkaaDoor
