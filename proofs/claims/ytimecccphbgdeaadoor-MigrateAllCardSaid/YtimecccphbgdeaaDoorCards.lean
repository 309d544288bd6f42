/-
  DERIVED. GIVEN WITH THE SEED: THE CARDS: each row of YtimecccphbgdeaaDoorRows.lean that lists a variable, with what it lists TIED to the program's text (the seventh form; the later family's looks); each row that meets fmt, with fmt's text TOLD by the authors' own Lean function (tested against real Go, not proved from fmt's source: count such statements apart). THE CARD IS WHAT COUNTS. Prove the row's statement (the work); the ties are given (YtimecccphbgdeaaDoorTie.lean); close each card by the builder's one call (the guide's Derived/Test/ToyasCard.lean, 'card_holds'). Laid BY PROGRAM, IN A SANDBOX (cutbox-door.mjs). By AI agents, Wed Nov 11 2026. No macro, syntax, notation, axiom, sorry.
-/
import Derived.Test.YtimecccphbgdeaaDoorRows
import GoSem.ClaimSeven
namespace Go.Proofs.YtimecccphbgdeaaDoor
namespace Rows

/-- THE TIED CARD OF 'librarylaw18.MigrateRight'. -/
def migrateRightCard : Claim7 := { stood := { row := migrateRightRow, standIns := [], harness := (true, "f0317edaa5c4df7b5899381f68af55821e059d11f522b80ea0397af68a002232"), looks := false }, kinds := [], alts := [], laidByText := true, laidKinds := [.data, .pinned], laidTests := true, laidLooks := .later }
def MigrateRightCardSaid : Prop := Claim7.holds Tryd.pinned (.plain (OpenSpec.ofChange migrateRightSpec)) migrateRightCard

/-- THE TIED CARD OF 'librarylaw18.MigrateUp'. -/
def migrateUpCard : Claim7 := { stood := { row := migrateUpRow, standIns := [], harness := (true, "f0317edaa5c4df7b5899381f68af55821e059d11f522b80ea0397af68a002232"), looks := false }, kinds := [], alts := [], laidByText := true, laidKinds := [.data, .pinned], laidTests := true, laidLooks := .later }
def MigrateUpCardSaid : Prop := Claim7.holds Tryd.pinned (.plain (OpenSpec.ofChange migrateUpSpec)) migrateUpCard

/-- THE TIED CARD OF 'librarylaw18.MigrateDown'. -/
def migrateDownCard : Claim7 := { stood := { row := migrateDownRow, standIns := [], harness := (true, "f0317edaa5c4df7b5899381f68af55821e059d11f522b80ea0397af68a002232"), looks := false }, kinds := [], alts := [], laidByText := true, laidKinds := [.data, .pinned], laidTests := true, laidLooks := .later }
def MigrateDownCardSaid : Prop := Claim7.holds Tryd.pinned (.plain (OpenSpec.ofChange migrateDownSpec)) migrateDownCard

/-- THE TIED CARD OF 'librarylaw18.MigrateTo'. -/
def migrateToCard : Claim7 := { stood := { row := migrateToRow, standIns := [], harness := (true, "f0317edaa5c4df7b5899381f68af55821e059d11f522b80ea0397af68a002232"), looks := false }, kinds := [], alts := [], laidByText := true, laidKinds := [.data, .pinned], laidTests := true, laidLooks := .later }
def MigrateToCardSaid : Prop := Claim7.holds Tryd.pinned (.plain (OpenSpec.ofChange migrateToSpec)) migrateToCard

/-- THE TIED CARD OF 'librarylaw18.MigrateBack'. -/
def migrateBackCard : Claim7 := { stood := { row := migrateBackRow, standIns := [], harness := (true, "f0317edaa5c4df7b5899381f68af55821e059d11f522b80ea0397af68a002232"), looks := false }, kinds := [], alts := [], laidByText := true, laidKinds := [.data, .pinned], laidTests := true, laidLooks := .later }
def MigrateBackCardSaid : Prop := Claim7.holds Tryd.pinned (.plain (OpenSpec.ofChange migrateBackSpec)) migrateBackCard

/-- THE TIED CARD OF 'librarylaw18.MigrateAll'. -/
def migrateAllCard : Claim7 := { stood := { row := migrateAllRow, standIns := [], harness := (true, "f0317edaa5c4df7b5899381f68af55821e059d11f522b80ea0397af68a002232"), looks := false }, kinds := [], alts := [], laidByText := true, laidKinds := [.data, .pinned], laidTests := true, laidLooks := .later }
def MigrateAllCardSaid : Prop := Claim7.holds Tryd.pinned (.plain (OpenSpec.ofChange migrateAllSpec)) migrateAllCard

/-- THE SECOND FORM's CARD OF 'librarylaw18.MigrateRight'. -/
def migrateRightUptoCard : Claim7 := { stood := { row := migrateRightUptoRow, standIns := [], harness := (true, "f0317edaa5c4df7b5899381f68af55821e059d11f522b80ea0397af68a002232"), looks := false }, kinds := [], alts := [], laidByText := true, laidKinds := [.data, .pinned], laidTests := true, laidLooks := .later }
def MigrateRightUptoCardSaid : Prop := Claim7.holds Tryd.pinned (.plain (OpenSpec.upto migrateRightSpec)) migrateRightUptoCard

/-- THE SECOND FORM's CARD OF 'librarylaw18.MigrateUp'. -/
def migrateUpUptoCard : Claim7 := { stood := { row := migrateUpUptoRow, standIns := [], harness := (true, "f0317edaa5c4df7b5899381f68af55821e059d11f522b80ea0397af68a002232"), looks := false }, kinds := [], alts := [], laidByText := true, laidKinds := [.data, .pinned], laidTests := true, laidLooks := .later }
def MigrateUpUptoCardSaid : Prop := Claim7.holds Tryd.pinned (.plain (OpenSpec.upto migrateUpSpec)) migrateUpUptoCard

/-- THE SECOND FORM's CARD OF 'librarylaw18.MigrateDown'. -/
def migrateDownUptoCard : Claim7 := { stood := { row := migrateDownUptoRow, standIns := [], harness := (true, "f0317edaa5c4df7b5899381f68af55821e059d11f522b80ea0397af68a002232"), looks := false }, kinds := [], alts := [], laidByText := true, laidKinds := [.data, .pinned], laidTests := true, laidLooks := .later }
def MigrateDownUptoCardSaid : Prop := Claim7.holds Tryd.pinned (.plain (OpenSpec.upto migrateDownSpec)) migrateDownUptoCard

/-- THE SECOND FORM's CARD OF 'librarylaw18.MigrateTo'. -/
def migrateToUptoCard : Claim7 := { stood := { row := migrateToUptoRow, standIns := [], harness := (true, "f0317edaa5c4df7b5899381f68af55821e059d11f522b80ea0397af68a002232"), looks := false }, kinds := [], alts := [], laidByText := true, laidKinds := [.data, .pinned], laidTests := true, laidLooks := .later }
def MigrateToUptoCardSaid : Prop := Claim7.holds Tryd.pinned (.plain (OpenSpec.upto migrateToSpec)) migrateToUptoCard

/-- THE SECOND FORM's CARD OF 'librarylaw18.MigrateBack'. -/
def migrateBackUptoCard : Claim7 := { stood := { row := migrateBackUptoRow, standIns := [], harness := (true, "f0317edaa5c4df7b5899381f68af55821e059d11f522b80ea0397af68a002232"), looks := false }, kinds := [], alts := [], laidByText := true, laidKinds := [.data, .pinned], laidTests := true, laidLooks := .later }
def MigrateBackUptoCardSaid : Prop := Claim7.holds Tryd.pinned (.plain (OpenSpec.upto migrateBackSpec)) migrateBackUptoCard

/-- THE SECOND FORM's CARD OF 'librarylaw18.MigrateAll'. -/
def migrateAllUptoCard : Claim7 := { stood := { row := migrateAllUptoRow, standIns := [], harness := (true, "f0317edaa5c4df7b5899381f68af55821e059d11f522b80ea0397af68a002232"), looks := false }, kinds := [], alts := [], laidByText := true, laidKinds := [.data, .pinned], laidTests := true, laidLooks := .later }
def MigrateAllUptoCardSaid : Prop := Claim7.holds Tryd.pinned (.plain (OpenSpec.upto migrateAllSpec)) migrateAllUptoCard
end Rows
end Go.Proofs.YtimecccphbgdeaaDoor
