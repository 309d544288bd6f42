/-
  DERIVED. GIVEN WITH THE SEED: THE CARDS: each row of YtieapjdkbigejaaDoorRows.lean that lists a variable, with what it lists TIED to the program's text (the seventh form; the later family's looks); each row that meets fmt, with fmt's text TOLD by the authors' own Lean function (tested against real Go, not proved from fmt's source: count such statements apart). THE CARD IS WHAT COUNTS. Prove the row's statement (the work); the ties are given (YtieapjdkbigejaaDoorTie.lean); close each card by the builder's one call (the guide's Derived/Test/ToyasCard.lean, 'card_holds'). Laid BY PROGRAM, IN A SANDBOX (cutbox-door.mjs). By AI agents, Wed Nov 11 2026. No macro, syntax, notation, axiom, sorry.
-/
import Derived.Test.YtieapjdkbigejaaDoorRows
import GoSem.ClaimSeven
namespace Go.Proofs.YtieapjdkbigejaaDoor
namespace Rows

/-- THE TIED CARD OF 'librarylaw02.CollateSkips'. -/
def collateSkipsCard : Claim7 := { stood := { row := collateSkipsRow, standIns := [], harness := (true, "040f26ccb8645249abce9131ce6363ebb647f830e76a903c9cd99c04fd26e1e0"), looks := false }, kinds := [], alts := [], laidByText := true, laidKinds := [.data, .pinned], laidTests := true, laidLooks := .later }
def CollateSkipsCardSaid : Prop := Claim7.holds Tryd.pinned (.plain (OpenSpec.ofChange collateSkipsSpec)) collateSkipsCard

/-- THE TIED CARD OF 'librarylaw02.CollateKeys'. -/
def collateKeysCard : Claim7 := { stood := { row := collateKeysRow, standIns := [], harness := (true, "040f26ccb8645249abce9131ce6363ebb647f830e76a903c9cd99c04fd26e1e0"), looks := false }, kinds := [], alts := [], laidByText := true, laidKinds := [.data, .pinned], laidTests := true, laidLooks := .later }
def CollateKeysCardSaid : Prop := Claim7.holds Tryd.pinned (.plain (OpenSpec.ofChange collateKeysSpec)) collateKeysCard

/-- THE TIED CARD OF 'librarylaw02.CollateCompares'. -/
def collateComparesCard : Claim7 := { stood := { row := collateComparesRow, standIns := [], harness := (true, "040f26ccb8645249abce9131ce6363ebb647f830e76a903c9cd99c04fd26e1e0"), looks := false }, kinds := [], alts := [], laidByText := true, laidKinds := [.data, .pinned], laidTests := true, laidLooks := .later }
def CollateComparesCardSaid : Prop := Claim7.holds Tryd.pinned (.plain (OpenSpec.ofChange collateComparesSpec)) collateComparesCard

/-- THE TIED CARD OF 'librarylaw02.CollateOrders'. -/
def collateOrdersCard : Claim7 := { stood := { row := collateOrdersRow, standIns := [], harness := (true, "040f26ccb8645249abce9131ce6363ebb647f830e76a903c9cd99c04fd26e1e0"), looks := false }, kinds := [], alts := [], laidByText := true, laidKinds := [.data, .pinned], laidTests := true, laidLooks := .later }
def CollateOrdersCardSaid : Prop := Claim7.holds Tryd.pinned (.plain (OpenSpec.ofChange collateOrdersSpec)) collateOrdersCard

/-- THE TIED CARD OF 'librarylaw02.CollateSeparates'. -/
def collateSeparatesCard : Claim7 := { stood := { row := collateSeparatesRow, standIns := [], harness := (true, "040f26ccb8645249abce9131ce6363ebb647f830e76a903c9cd99c04fd26e1e0"), looks := false }, kinds := [], alts := [], laidByText := true, laidKinds := [.data, .pinned], laidTests := true, laidLooks := .later }
def CollateSeparatesCardSaid : Prop := Claim7.holds Tryd.pinned (.plain (OpenSpec.ofChange collateSeparatesSpec)) collateSeparatesCard

/-- THE TIED CARD OF 'librarylaw02.CollateArticles'. -/
def collateArticlesCard : Claim7 := { stood := { row := collateArticlesRow, standIns := [], harness := (true, "040f26ccb8645249abce9131ce6363ebb647f830e76a903c9cd99c04fd26e1e0"), looks := false }, kinds := [], alts := [], laidByText := true, laidKinds := [.data, .pinned], laidTests := true, laidLooks := .later }
def CollateArticlesCardSaid : Prop := Claim7.holds Tryd.pinned (.plain (OpenSpec.ofChange collateArticlesSpec)) collateArticlesCard

/-- THE TIED CARD OF 'librarylaw02.CollateSorts'. -/
def collateSortsCard : Claim7 := { stood := { row := collateSortsRow, standIns := [], harness := (true, "040f26ccb8645249abce9131ce6363ebb647f830e76a903c9cd99c04fd26e1e0"), looks := false }, kinds := [], alts := [], laidByText := true, laidKinds := [.data, .pinned], laidTests := true, laidLooks := .later }
def CollateSortsCardSaid : Prop := Claim7.holds Tryd.pinned (.plain (OpenSpec.ofChange collateSortsSpec)) collateSortsCard

/-- THE TIED CARD OF 'librarylaw02.CollatePermutes'. -/
def collatePermutesCard : Claim7 := { stood := { row := collatePermutesRow, standIns := [], harness := (true, "040f26ccb8645249abce9131ce6363ebb647f830e76a903c9cd99c04fd26e1e0"), looks := false }, kinds := [], alts := [], laidByText := true, laidKinds := [.data, .pinned], laidTests := true, laidLooks := .later }
def CollatePermutesCardSaid : Prop := Claim7.holds Tryd.pinned (.plain (OpenSpec.ofChange collatePermutesSpec)) collatePermutesCard

/-- THE SECOND FORM's CARD OF 'librarylaw02.CollateSkips'. -/
def collateSkipsUptoCard : Claim7 := { stood := { row := collateSkipsUptoRow, standIns := [], harness := (true, "040f26ccb8645249abce9131ce6363ebb647f830e76a903c9cd99c04fd26e1e0"), looks := false }, kinds := [], alts := [], laidByText := true, laidKinds := [.data, .pinned], laidTests := true, laidLooks := .later }
def CollateSkipsUptoCardSaid : Prop := Claim7.holds Tryd.pinned (.plain (OpenSpec.upto collateSkipsSpec)) collateSkipsUptoCard

/-- THE SECOND FORM's CARD OF 'librarylaw02.CollateKeys'. -/
def collateKeysUptoCard : Claim7 := { stood := { row := collateKeysUptoRow, standIns := [], harness := (true, "040f26ccb8645249abce9131ce6363ebb647f830e76a903c9cd99c04fd26e1e0"), looks := false }, kinds := [], alts := [], laidByText := true, laidKinds := [.data, .pinned], laidTests := true, laidLooks := .later }
def CollateKeysUptoCardSaid : Prop := Claim7.holds Tryd.pinned (.plain (OpenSpec.upto collateKeysSpec)) collateKeysUptoCard

/-- THE SECOND FORM's CARD OF 'librarylaw02.CollateCompares'. -/
def collateComparesUptoCard : Claim7 := { stood := { row := collateComparesUptoRow, standIns := [], harness := (true, "040f26ccb8645249abce9131ce6363ebb647f830e76a903c9cd99c04fd26e1e0"), looks := false }, kinds := [], alts := [], laidByText := true, laidKinds := [.data, .pinned], laidTests := true, laidLooks := .later }
def CollateComparesUptoCardSaid : Prop := Claim7.holds Tryd.pinned (.plain (OpenSpec.upto collateComparesSpec)) collateComparesUptoCard

/-- THE SECOND FORM's CARD OF 'librarylaw02.CollateOrders'. -/
def collateOrdersUptoCard : Claim7 := { stood := { row := collateOrdersUptoRow, standIns := [], harness := (true, "040f26ccb8645249abce9131ce6363ebb647f830e76a903c9cd99c04fd26e1e0"), looks := false }, kinds := [], alts := [], laidByText := true, laidKinds := [.data, .pinned], laidTests := true, laidLooks := .later }
def CollateOrdersUptoCardSaid : Prop := Claim7.holds Tryd.pinned (.plain (OpenSpec.upto collateOrdersSpec)) collateOrdersUptoCard

/-- THE SECOND FORM's CARD OF 'librarylaw02.CollateSeparates'. -/
def collateSeparatesUptoCard : Claim7 := { stood := { row := collateSeparatesUptoRow, standIns := [], harness := (true, "040f26ccb8645249abce9131ce6363ebb647f830e76a903c9cd99c04fd26e1e0"), looks := false }, kinds := [], alts := [], laidByText := true, laidKinds := [.data, .pinned], laidTests := true, laidLooks := .later }
def CollateSeparatesUptoCardSaid : Prop := Claim7.holds Tryd.pinned (.plain (OpenSpec.upto collateSeparatesSpec)) collateSeparatesUptoCard

/-- THE SECOND FORM's CARD OF 'librarylaw02.CollateArticles'. -/
def collateArticlesUptoCard : Claim7 := { stood := { row := collateArticlesUptoRow, standIns := [], harness := (true, "040f26ccb8645249abce9131ce6363ebb647f830e76a903c9cd99c04fd26e1e0"), looks := false }, kinds := [], alts := [], laidByText := true, laidKinds := [.data, .pinned], laidTests := true, laidLooks := .later }
def CollateArticlesUptoCardSaid : Prop := Claim7.holds Tryd.pinned (.plain (OpenSpec.upto collateArticlesSpec)) collateArticlesUptoCard

/-- THE SECOND FORM's CARD OF 'librarylaw02.CollateSorts'. -/
def collateSortsUptoCard : Claim7 := { stood := { row := collateSortsUptoRow, standIns := [], harness := (true, "040f26ccb8645249abce9131ce6363ebb647f830e76a903c9cd99c04fd26e1e0"), looks := false }, kinds := [], alts := [], laidByText := true, laidKinds := [.data, .pinned], laidTests := true, laidLooks := .later }
def CollateSortsUptoCardSaid : Prop := Claim7.holds Tryd.pinned (.plain (OpenSpec.upto collateSortsSpec)) collateSortsUptoCard

/-- THE SECOND FORM's CARD OF 'librarylaw02.CollatePermutes'. -/
def collatePermutesUptoCard : Claim7 := { stood := { row := collatePermutesUptoRow, standIns := [], harness := (true, "040f26ccb8645249abce9131ce6363ebb647f830e76a903c9cd99c04fd26e1e0"), looks := false }, kinds := [], alts := [], laidByText := true, laidKinds := [.data, .pinned], laidTests := true, laidLooks := .later }
def CollatePermutesUptoCardSaid : Prop := Claim7.holds Tryd.pinned (.plain (OpenSpec.upto collatePermutesSpec)) collatePermutesUptoCard
end Rows
end Go.Proofs.YtieapjdkbigejaaDoor
