/-
  DERIVED. GIVEN WITH THE SEED: THE CARDS: each row of YtcdlgmncalmihaaDoorRows.lean that lists a variable, with what it lists TIED to the program's text (the seventh form; the later family's looks); each row that meets fmt, with fmt's text TOLD by the authors' own Lean function (tested against real Go, not proved from fmt's source: count such statements apart). THE CARD IS WHAT COUNTS. Prove the row's statement (the work); the ties are given (YtcdlgmncalmihaaDoorTie.lean); close each card by the builder's one call (the guide's Derived/Test/ToyasCard.lean, 'card_holds'). Laid BY PROGRAM, IN A SANDBOX (cutbox-door.mjs). By AI agents, Wed Nov 11 2026. No macro, syntax, notation, axiom, sorry.
-/
import Derived.Test.YtcdlgmncalmihaaDoorRows
import GoSem.ClaimSeven
namespace Go.Proofs.YtcdlgmncalmihaaDoor
namespace Rows

/-- THE TIED CARD OF 'librarylaw16.MergeKeeps'. -/
def mergeKeepsCard : Claim7 := { stood := { row := mergeKeepsRow, standIns := [], harness := (true, "e31ecc8ce1ab5390f56eb9d70bc86d2a4477eeb1af4c9192e36a6a01d02b662d"), looks := false }, kinds := [], alts := [], laidByText := true, laidKinds := [.data, .pinned], laidTests := true, laidLooks := .later }
def MergeKeepsCardSaid : Prop := Claim7.holds Tryd.pinned (.plain (OpenSpec.ofChange mergeKeepsSpec)) mergeKeepsCard

/-- THE TIED CARD OF 'librarylaw16.MergeMerges'. -/
def mergeMergesCard : Claim7 := { stood := { row := mergeMergesRow, standIns := [], harness := (true, "e31ecc8ce1ab5390f56eb9d70bc86d2a4477eeb1af4c9192e36a6a01d02b662d"), looks := false }, kinds := [], alts := [], laidByText := true, laidKinds := [.data, .pinned], laidTests := true, laidLooks := .later }
def MergeMergesCardSaid : Prop := Claim7.holds Tryd.pinned (.plain (OpenSpec.ofChange mergeMergesSpec)) mergeMergesCard

/-- THE TIED CARD OF 'librarylaw16.MergeTakes'. -/
def mergeTakesCard : Claim7 := { stood := { row := mergeTakesRow, standIns := [], harness := (true, "e31ecc8ce1ab5390f56eb9d70bc86d2a4477eeb1af4c9192e36a6a01d02b662d"), looks := false }, kinds := [], alts := [], laidByText := true, laidKinds := [.data, .pinned], laidTests := true, laidLooks := .later }
def MergeTakesCardSaid : Prop := Claim7.holds Tryd.pinned (.plain (OpenSpec.ofChange mergeTakesSpec)) mergeTakesCard

/-- THE TIED CARD OF 'librarylaw16.MergeInverse'. -/
def mergeInverseCard : Claim7 := { stood := { row := mergeInverseRow, standIns := [], harness := (true, "e31ecc8ce1ab5390f56eb9d70bc86d2a4477eeb1af4c9192e36a6a01d02b662d"), looks := false }, kinds := [], alts := [], laidByText := true, laidKinds := [.data, .pinned], laidTests := true, laidLooks := .later }
def MergeInverseCardSaid : Prop := Claim7.holds Tryd.pinned (.plain (OpenSpec.ofChange mergeInverseSpec)) mergeInverseCard

/-- THE SECOND FORM's CARD OF 'librarylaw16.MergeKeeps'. -/
def mergeKeepsUptoCard : Claim7 := { stood := { row := mergeKeepsUptoRow, standIns := [], harness := (true, "e31ecc8ce1ab5390f56eb9d70bc86d2a4477eeb1af4c9192e36a6a01d02b662d"), looks := false }, kinds := [], alts := [], laidByText := true, laidKinds := [.data, .pinned], laidTests := true, laidLooks := .later }
def MergeKeepsUptoCardSaid : Prop := Claim7.holds Tryd.pinned (.plain (OpenSpec.upto mergeKeepsSpec)) mergeKeepsUptoCard

/-- THE SECOND FORM's CARD OF 'librarylaw16.MergeMerges'. -/
def mergeMergesUptoCard : Claim7 := { stood := { row := mergeMergesUptoRow, standIns := [], harness := (true, "e31ecc8ce1ab5390f56eb9d70bc86d2a4477eeb1af4c9192e36a6a01d02b662d"), looks := false }, kinds := [], alts := [], laidByText := true, laidKinds := [.data, .pinned], laidTests := true, laidLooks := .later }
def MergeMergesUptoCardSaid : Prop := Claim7.holds Tryd.pinned (.plain (OpenSpec.upto mergeMergesSpec)) mergeMergesUptoCard

/-- THE SECOND FORM's CARD OF 'librarylaw16.MergeTakes'. -/
def mergeTakesUptoCard : Claim7 := { stood := { row := mergeTakesUptoRow, standIns := [], harness := (true, "e31ecc8ce1ab5390f56eb9d70bc86d2a4477eeb1af4c9192e36a6a01d02b662d"), looks := false }, kinds := [], alts := [], laidByText := true, laidKinds := [.data, .pinned], laidTests := true, laidLooks := .later }
def MergeTakesUptoCardSaid : Prop := Claim7.holds Tryd.pinned (.plain (OpenSpec.upto mergeTakesSpec)) mergeTakesUptoCard

/-- THE SECOND FORM's CARD OF 'librarylaw16.MergeInverse'. -/
def mergeInverseUptoCard : Claim7 := { stood := { row := mergeInverseUptoRow, standIns := [], harness := (true, "e31ecc8ce1ab5390f56eb9d70bc86d2a4477eeb1af4c9192e36a6a01d02b662d"), looks := false }, kinds := [], alts := [], laidByText := true, laidKinds := [.data, .pinned], laidTests := true, laidLooks := .later }
def MergeInverseUptoCardSaid : Prop := Claim7.holds Tryd.pinned (.plain (OpenSpec.upto mergeInverseSpec)) mergeInverseUptoCard
end Rows
end Go.Proofs.YtcdlgmncalmihaaDoor
