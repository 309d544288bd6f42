/-
  DERIVED. GIVEN WITH THE SEED: THE CARDS: each row of YtamdimjinbaigaaDoorRows.lean that lists a variable, with what it lists TIED to the program's text (the seventh form; the later family's looks); each row that meets fmt, with fmt's text TOLD by the authors' own Lean function (tested against real Go, not proved from fmt's source: count such statements apart). THE CARD IS WHAT COUNTS. Prove the row's statement (the work); the ties are given (YtamdimjinbaigaaDoorTie.lean); close each card by the builder's one call (the guide's Derived/Test/ToyasCard.lean, 'card_holds'). Laid BY PROGRAM, IN A SANDBOX (cutbox-door.mjs). By AI agents, Wed Nov 11 2026. No macro, syntax, notation, axiom, sorry.
-/
import Derived.Test.YtamdimjinbaigaaDoorRows
import GoSem.ClaimSeven
namespace Go.Proofs.YtamdimjinbaigaaDoor
namespace Rows

/-- THE TIED CARD OF 'librarylaw01.TextValid'. -/
def textValidCard : Claim7 := { stood := { row := textValidRow, standIns := [], harness := (true, "5317c0068b6c22484c99c44200bf18b372927f3810212e2989f6807621f488c6"), looks := false }, kinds := [], alts := [], laidByText := true, laidKinds := [.data, .pinned], laidTests := true, laidLooks := .later }
def TextValidCardSaid : Prop := Claim7.holds Tryd.pinned (.plain (OpenSpec.ofChange textValidSpec)) textValidCard

/-- THE TIED CARD OF 'librarylaw01.TextClips'. -/
def textClipsCard : Claim7 := { stood := { row := textClipsRow, standIns := [], harness := (true, "5317c0068b6c22484c99c44200bf18b372927f3810212e2989f6807621f488c6"), looks := false }, kinds := [], alts := [], laidByText := true, laidKinds := [.data, .pinned], laidTests := true, laidLooks := .later }
def TextClipsCardSaid : Prop := Claim7.holds Tryd.pinned (.plain (OpenSpec.ofChange textClipsSpec)) textClipsCard

/-- THE TIED CARD OF 'librarylaw01.TextFolds'. -/
def textFoldsCard : Claim7 := { stood := { row := textFoldsRow, standIns := [], harness := (true, "5317c0068b6c22484c99c44200bf18b372927f3810212e2989f6807621f488c6"), looks := false }, kinds := [], alts := [], laidByText := true, laidKinds := [.data, .pinned], laidTests := true, laidLooks := .later }
def TextFoldsCardSaid : Prop := Claim7.holds Tryd.pinned (.plain (OpenSpec.ofChange textFoldsSpec)) textFoldsCard

/-- THE TIED CARD OF 'librarylaw01.TextStays'. -/
def textStaysCard : Claim7 := { stood := { row := textStaysRow, standIns := [], harness := (true, "5317c0068b6c22484c99c44200bf18b372927f3810212e2989f6807621f488c6"), looks := false }, kinds := [], alts := [], laidByText := true, laidKinds := [.data, .pinned], laidTests := true, laidLooks := .later }
def TextStaysCardSaid : Prop := Claim7.holds Tryd.pinned (.plain (OpenSpec.ofChange textStaysSpec)) textStaysCard

/-- THE TIED CARD OF 'librarylaw01.TextCleans'. -/
def textCleansCard : Claim7 := { stood := { row := textCleansRow, standIns := [], harness := (true, "5317c0068b6c22484c99c44200bf18b372927f3810212e2989f6807621f488c6"), looks := false }, kinds := [], alts := [], laidByText := true, laidKinds := [.data, .pinned], laidTests := true, laidLooks := .later }
def TextCleansCardSaid : Prop := Claim7.holds Tryd.pinned (.plain (OpenSpec.ofChange textCleansSpec)) textCleansCard

/-- THE TIED CARD OF 'librarylaw01.TextBegins'. -/
def textBeginsCard : Claim7 := { stood := { row := textBeginsRow, standIns := [], harness := (true, "5317c0068b6c22484c99c44200bf18b372927f3810212e2989f6807621f488c6"), looks := false }, kinds := [], alts := [], laidByText := true, laidKinds := [.data, .pinned], laidTests := true, laidLooks := .later }
def TextBeginsCardSaid : Prop := Claim7.holds Tryd.pinned (.plain (OpenSpec.ofChange textBeginsSpec)) textBeginsCard

/-- THE SECOND FORM's CARD OF 'librarylaw01.TextValid'. -/
def textValidUptoCard : Claim7 := { stood := { row := textValidUptoRow, standIns := [], harness := (true, "5317c0068b6c22484c99c44200bf18b372927f3810212e2989f6807621f488c6"), looks := false }, kinds := [], alts := [], laidByText := true, laidKinds := [.data, .pinned], laidTests := true, laidLooks := .later }
def TextValidUptoCardSaid : Prop := Claim7.holds Tryd.pinned (.plain (OpenSpec.upto textValidSpec)) textValidUptoCard

/-- THE SECOND FORM's CARD OF 'librarylaw01.TextClips'. -/
def textClipsUptoCard : Claim7 := { stood := { row := textClipsUptoRow, standIns := [], harness := (true, "5317c0068b6c22484c99c44200bf18b372927f3810212e2989f6807621f488c6"), looks := false }, kinds := [], alts := [], laidByText := true, laidKinds := [.data, .pinned], laidTests := true, laidLooks := .later }
def TextClipsUptoCardSaid : Prop := Claim7.holds Tryd.pinned (.plain (OpenSpec.upto textClipsSpec)) textClipsUptoCard

/-- THE SECOND FORM's CARD OF 'librarylaw01.TextFolds'. -/
def textFoldsUptoCard : Claim7 := { stood := { row := textFoldsUptoRow, standIns := [], harness := (true, "5317c0068b6c22484c99c44200bf18b372927f3810212e2989f6807621f488c6"), looks := false }, kinds := [], alts := [], laidByText := true, laidKinds := [.data, .pinned], laidTests := true, laidLooks := .later }
def TextFoldsUptoCardSaid : Prop := Claim7.holds Tryd.pinned (.plain (OpenSpec.upto textFoldsSpec)) textFoldsUptoCard

/-- THE SECOND FORM's CARD OF 'librarylaw01.TextStays'. -/
def textStaysUptoCard : Claim7 := { stood := { row := textStaysUptoRow, standIns := [], harness := (true, "5317c0068b6c22484c99c44200bf18b372927f3810212e2989f6807621f488c6"), looks := false }, kinds := [], alts := [], laidByText := true, laidKinds := [.data, .pinned], laidTests := true, laidLooks := .later }
def TextStaysUptoCardSaid : Prop := Claim7.holds Tryd.pinned (.plain (OpenSpec.upto textStaysSpec)) textStaysUptoCard

/-- THE SECOND FORM's CARD OF 'librarylaw01.TextCleans'. -/
def textCleansUptoCard : Claim7 := { stood := { row := textCleansUptoRow, standIns := [], harness := (true, "5317c0068b6c22484c99c44200bf18b372927f3810212e2989f6807621f488c6"), looks := false }, kinds := [], alts := [], laidByText := true, laidKinds := [.data, .pinned], laidTests := true, laidLooks := .later }
def TextCleansUptoCardSaid : Prop := Claim7.holds Tryd.pinned (.plain (OpenSpec.upto textCleansSpec)) textCleansUptoCard

/-- THE SECOND FORM's CARD OF 'librarylaw01.TextBegins'. -/
def textBeginsUptoCard : Claim7 := { stood := { row := textBeginsUptoRow, standIns := [], harness := (true, "5317c0068b6c22484c99c44200bf18b372927f3810212e2989f6807621f488c6"), looks := false }, kinds := [], alts := [], laidByText := true, laidKinds := [.data, .pinned], laidTests := true, laidLooks := .later }
def TextBeginsUptoCardSaid : Prop := Claim7.holds Tryd.pinned (.plain (OpenSpec.upto textBeginsSpec)) textBeginsUptoCard
end Rows
end Go.Proofs.YtamdimjinbaigaaDoor
