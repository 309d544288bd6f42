/-
  NARROWER THAN 'FOR EVERY INPUT', by the rows' own cells (each row's printed sentence says how): PatronRight: laid · PatronAdds: laid · PatronReasons: laid · PatronSearch: laid · PatronGets: laid · PatronBack: laid · PatronReplaces: laid.
  DERIVED. THE GIVEN ROWS OF THIS SEAT. 7 by the template 'for every input the law returns true; each argument reads behind the call as it read before'; 0 by the template 'total and deterministic' (their statements: YtlpeppigebbfkaaDoorTotals.lean).
  GIVEN WITH THE SEED: the statements are not yours to turn. If you find one false, say at which input.
  Laid BY PROGRAM, IN A SANDBOX (cutbox-rows.mjs): the forced cells as the released guide's own fill.sh prints them over the translation 3dacc9d60d97469b… (all of the seat's roots in one cut). By AI agents, Wed Nov 11 2026. No macro, syntax, notation, axiom, sorry.
-/
import Derived.Test.YtlpeppigebbfkaaDoorChecked
import GoSem.PinnedTables
import GoSem.Claim
import GoSem.ClaimJoined
import GoSem.ClaimMapViews
import Derived.JoinedTies
import Derived.KernelRfl
namespace Go.Proofs.YtlpeppigebbfkaaDoor
/- THE CELL 'sum', in the pinned program and in every row, IS THE sha256 OF THE DUMP (.gsa) THAT YtlpeppigebbfkaaDoorProg.lean LOADS. Nothing in Lean hashes anything: it is a label: what it is worth is what the hold of that sum in a sandbox is worth. -/
noncomputable def Tryd.pinned : Pinned := { name := "ytlpeppigebbfkaadoor", sum := "3dacc9d60d97469b002b047fe7f233616d333fc679bb99f818ec004dfcc2a08a", checked := Tryd.checked }
namespace Rows
def none {H : Type} : Left H := { results := [], args := [] }

/- WHAT THE LISTED PACKAGE-LEVEL VARIABLES READ AS WHEN THE CALL BEGINS. Each datum BY PROGRAM (the guide's laid-datum.mjs) off the statement by which the dump's own 'gosem.cut.vars' lays the variable. In a bare row this is a premise. The card (YtlpeppigebbfkaaDoorCards.lean) ties it to the program's text. -/
def laid_unicode_utf8_acceptRanges {H : Type} : DataW H := .agg [.agg [.lit (.int .u8 128), .lit (.int .u8 191)], .agg [.lit (.int .u8 160), .lit (.int .u8 191)], .agg [.lit (.int .u8 128), .lit (.int .u8 159)], .agg [.lit (.int .u8 144), .lit (.int .u8 191)], .agg [.lit (.int .u8 128), .lit (.int .u8 143)], .agg [.lit (.int .u8 0), .lit (.int .u8 0)], .agg [.lit (.int .u8 0), .lit (.int .u8 0)], .agg [.lit (.int .u8 0), .lit (.int .u8 0)], .agg [.lit (.int .u8 0), .lit (.int .u8 0)], .agg [.lit (.int .u8 0), .lit (.int .u8 0)], .agg [.lit (.int .u8 0), .lit (.int .u8 0)], .agg [.lit (.int .u8 0), .lit (.int .u8 0)], .agg [.lit (.int .u8 0), .lit (.int .u8 0)], .agg [.lit (.int .u8 0), .lit (.int .u8 0)], .agg [.lit (.int .u8 0), .lit (.int .u8 0)], .agg [.lit (.int .u8 0), .lit (.int .u8 0)]]
/-- One of Go's own tables, pinned by name: the form's constant. -/
def laid_unicode_utf8_first : DataW Unit := Go.Pinned.utf8First

/-- 'librarylaw28.PatronRight': WHATEVER THE INPUT: true; the input reads as it did. -/
def patronRightSpec : ChangeSpec := { name := "patronRight", fn := fun _ => fun
  | [d] => { results := [.lit (.bool true)], args := [d] }
  | _ => none }
def patronRightRow : OpenClaim := { program := "ytlpeppigebbfkaadoor", sum := "3dacc9d60d97469b002b047fe7f233616d333fc679bb99f818ec004dfcc2a08a", func := "library/librarylaw28.PatronRight", spec := "patronRight", inPlace := ["slices.overlaps[library/api.Patron]", "internal/abi.NoEscape", "internal/bytealg.MakeNoZero", "internal/bytealg.CountString", "internal/bytealg.IndexByteString", "internal/bytealg.IndexString"], unfollowed := true, recurses := true, named := ["unicode/utf8.first", "unicode/utf8.acceptRanges", "internal/bytealg.MaxLen"], apart := false, laid := [("unicode/utf8.acceptRanges", laid_unicode_utf8_acceptRanges), ("unicode/utf8.first", laid_unicode_utf8_first)] }
def PatronRightSaid : Prop := patronRightRow.holds Tryd.pinned (OpenSpec.ofChange patronRightSpec)

/-- ITS FALSE NEIGHBOUR: 'it returns false'. Refute it at one input. -/
def patronRightWrong : ChangeSpec := { name := "patronRight", fn := fun _ => fun
  | [d] => { results := [.lit (.bool false)], args := [d] }
  | _ => none }
def PatronRightWrongFalsely : Prop := patronRightRow.holds Tryd.pinned (OpenSpec.ofChange patronRightWrong)

/-- 'librarylaw28.PatronAdds': WHATEVER THE INPUT: true; the input reads as it did. -/
def patronAddsSpec : ChangeSpec := { name := "patronAdds", fn := fun _ => fun
  | [d1, d2] => { results := [.lit (.bool true)], args := [d1, d2] }
  | _ => none }
def patronAddsRow : OpenClaim := { program := "ytlpeppigebbfkaadoor", sum := "3dacc9d60d97469b002b047fe7f233616d333fc679bb99f818ec004dfcc2a08a", func := "library/librarylaw28.PatronAdds", spec := "patronAdds", inPlace := ["slices.overlaps[library/api.Patron]", "internal/abi.NoEscape", "internal/bytealg.MakeNoZero", "internal/bytealg.CountString", "internal/bytealg.IndexByteString", "internal/bytealg.IndexString"], unfollowed := true, recurses := true, named := ["unicode/utf8.first", "unicode/utf8.acceptRanges", "internal/bytealg.MaxLen"], apart := false, laid := [("unicode/utf8.acceptRanges", laid_unicode_utf8_acceptRanges), ("unicode/utf8.first", laid_unicode_utf8_first)] }
def PatronAddsSaid : Prop := patronAddsRow.holds Tryd.pinned (OpenSpec.ofChange patronAddsSpec)

/-- ITS FALSE NEIGHBOUR: 'it returns false'. Refute it at one input. -/
def patronAddsWrong : ChangeSpec := { name := "patronAdds", fn := fun _ => fun
  | [d1, d2] => { results := [.lit (.bool false)], args := [d1, d2] }
  | _ => none }
def PatronAddsWrongFalsely : Prop := patronAddsRow.holds Tryd.pinned (OpenSpec.ofChange patronAddsWrong)

/-- 'librarylaw28.PatronReasons': WHATEVER THE INPUT: true; the input reads as it did. -/
def patronReasonsSpec : ChangeSpec := { name := "patronReasons", fn := fun _ => fun
  | [d] => { results := [.lit (.bool true)], args := [d] }
  | _ => none }
def patronReasonsRow : OpenClaim := { program := "ytlpeppigebbfkaadoor", sum := "3dacc9d60d97469b002b047fe7f233616d333fc679bb99f818ec004dfcc2a08a", func := "library/librarylaw28.PatronReasons", spec := "patronReasons", inPlace := ["slices.overlaps[library/api.Patron]", "internal/abi.NoEscape", "internal/bytealg.MakeNoZero", "internal/bytealg.CountString", "internal/bytealg.IndexByteString", "internal/bytealg.IndexString"], unfollowed := true, recurses := true, named := ["unicode/utf8.first", "unicode/utf8.acceptRanges", "internal/bytealg.MaxLen"], apart := false, laid := [("unicode/utf8.acceptRanges", laid_unicode_utf8_acceptRanges), ("unicode/utf8.first", laid_unicode_utf8_first)] }
def PatronReasonsSaid : Prop := patronReasonsRow.holds Tryd.pinned (OpenSpec.ofChange patronReasonsSpec)

/-- ITS FALSE NEIGHBOUR: 'it returns false'. Refute it at one input. -/
def patronReasonsWrong : ChangeSpec := { name := "patronReasons", fn := fun _ => fun
  | [d] => { results := [.lit (.bool false)], args := [d] }
  | _ => none }
def PatronReasonsWrongFalsely : Prop := patronReasonsRow.holds Tryd.pinned (OpenSpec.ofChange patronReasonsWrong)

/-- 'librarylaw28.PatronSearch': WHATEVER THE INPUT: true; the input reads as it did. -/
def patronSearchSpec : ChangeSpec := { name := "patronSearch", fn := fun _ => fun
  | [d1, d2] => { results := [.lit (.bool true)], args := [d1, d2] }
  | _ => none }
def patronSearchRow : OpenClaim := { program := "ytlpeppigebbfkaadoor", sum := "3dacc9d60d97469b002b047fe7f233616d333fc679bb99f818ec004dfcc2a08a", func := "library/librarylaw28.PatronSearch", spec := "patronSearch", inPlace := ["slices.overlaps[library/api.Patron]", "internal/abi.NoEscape", "internal/bytealg.MakeNoZero", "internal/bytealg.CountString", "internal/bytealg.IndexByteString", "internal/bytealg.IndexString"], unfollowed := true, recurses := true, named := ["unicode/utf8.first", "unicode/utf8.acceptRanges", "internal/bytealg.MaxLen"], apart := false, laid := [("unicode/utf8.acceptRanges", laid_unicode_utf8_acceptRanges), ("unicode/utf8.first", laid_unicode_utf8_first)] }
def PatronSearchSaid : Prop := patronSearchRow.holds Tryd.pinned (OpenSpec.ofChange patronSearchSpec)

/-- ITS FALSE NEIGHBOUR: 'it returns false'. Refute it at one input. -/
def patronSearchWrong : ChangeSpec := { name := "patronSearch", fn := fun _ => fun
  | [d1, d2] => { results := [.lit (.bool false)], args := [d1, d2] }
  | _ => none }
def PatronSearchWrongFalsely : Prop := patronSearchRow.holds Tryd.pinned (OpenSpec.ofChange patronSearchWrong)

/-- 'librarylaw28.PatronGets': WHATEVER THE INPUT: true; the input reads as it did. -/
def patronGetsSpec : ChangeSpec := { name := "patronGets", fn := fun _ => fun
  | [d1, d2] => { results := [.lit (.bool true)], args := [d1, d2] }
  | _ => none }
def patronGetsRow : OpenClaim := { program := "ytlpeppigebbfkaadoor", sum := "3dacc9d60d97469b002b047fe7f233616d333fc679bb99f818ec004dfcc2a08a", func := "library/librarylaw28.PatronGets", spec := "patronGets", inPlace := ["slices.overlaps[library/api.Patron]", "internal/abi.NoEscape", "internal/bytealg.MakeNoZero", "internal/bytealg.CountString", "internal/bytealg.IndexByteString", "internal/bytealg.IndexString"], unfollowed := true, recurses := true, named := ["unicode/utf8.first", "unicode/utf8.acceptRanges", "internal/bytealg.MaxLen"], apart := false, laid := [("unicode/utf8.acceptRanges", laid_unicode_utf8_acceptRanges), ("unicode/utf8.first", laid_unicode_utf8_first)] }
def PatronGetsSaid : Prop := patronGetsRow.holds Tryd.pinned (OpenSpec.ofChange patronGetsSpec)

/-- ITS FALSE NEIGHBOUR: 'it returns false'. Refute it at one input. -/
def patronGetsWrong : ChangeSpec := { name := "patronGets", fn := fun _ => fun
  | [d1, d2] => { results := [.lit (.bool false)], args := [d1, d2] }
  | _ => none }
def PatronGetsWrongFalsely : Prop := patronGetsRow.holds Tryd.pinned (OpenSpec.ofChange patronGetsWrong)

/-- 'librarylaw28.PatronBack': WHATEVER THE INPUT: true; the input reads as it did. -/
def patronBackSpec : ChangeSpec := { name := "patronBack", fn := fun _ => fun
  | [d1, d2] => { results := [.lit (.bool true)], args := [d1, d2] }
  | _ => none }
def patronBackRow : OpenClaim := { program := "ytlpeppigebbfkaadoor", sum := "3dacc9d60d97469b002b047fe7f233616d333fc679bb99f818ec004dfcc2a08a", func := "library/librarylaw28.PatronBack", spec := "patronBack", inPlace := ["slices.overlaps[library/api.Patron]", "internal/abi.NoEscape", "internal/bytealg.MakeNoZero", "internal/bytealg.CountString", "internal/bytealg.IndexByteString", "internal/bytealg.IndexString"], unfollowed := true, recurses := true, named := ["unicode/utf8.first", "unicode/utf8.acceptRanges", "internal/bytealg.MaxLen"], apart := false, laid := [("unicode/utf8.acceptRanges", laid_unicode_utf8_acceptRanges), ("unicode/utf8.first", laid_unicode_utf8_first)] }
def PatronBackSaid : Prop := patronBackRow.holds Tryd.pinned (OpenSpec.ofChange patronBackSpec)

/-- ITS FALSE NEIGHBOUR: 'it returns false'. Refute it at one input. -/
def patronBackWrong : ChangeSpec := { name := "patronBack", fn := fun _ => fun
  | [d1, d2] => { results := [.lit (.bool false)], args := [d1, d2] }
  | _ => none }
def PatronBackWrongFalsely : Prop := patronBackRow.holds Tryd.pinned (OpenSpec.ofChange patronBackWrong)

/-- 'librarylaw28.PatronReplaces': WHATEVER THE INPUT: true; the input reads as it did. -/
def patronReplacesSpec : ChangeSpec := { name := "patronReplaces", fn := fun _ => fun
  | [d1, d2, d3] => { results := [.lit (.bool true)], args := [d1, d2, d3] }
  | _ => none }
def patronReplacesRow : OpenClaim := { program := "ytlpeppigebbfkaadoor", sum := "3dacc9d60d97469b002b047fe7f233616d333fc679bb99f818ec004dfcc2a08a", func := "library/librarylaw28.PatronReplaces", spec := "patronReplaces", inPlace := ["slices.overlaps[library/api.Patron]", "internal/abi.NoEscape", "internal/bytealg.MakeNoZero", "internal/bytealg.CountString", "internal/bytealg.IndexByteString", "internal/bytealg.IndexString"], unfollowed := true, recurses := true, named := ["unicode/utf8.first", "unicode/utf8.acceptRanges", "internal/bytealg.MaxLen"], apart := false, laid := [("unicode/utf8.acceptRanges", laid_unicode_utf8_acceptRanges), ("unicode/utf8.first", laid_unicode_utf8_first)] }
def PatronReplacesSaid : Prop := patronReplacesRow.holds Tryd.pinned (OpenSpec.ofChange patronReplacesSpec)

/-- ITS FALSE NEIGHBOUR: 'it returns false'. Refute it at one input. -/
def patronReplacesWrong : ChangeSpec := { name := "patronReplaces", fn := fun _ => fun
  | [d1, d2, d3] => { results := [.lit (.bool false)], args := [d1, d2, d3] }
  | _ => none }
def PatronReplacesWrongFalsely : Prop := patronReplacesRow.holds Tryd.pinned (OpenSpec.ofChange patronReplacesWrong)

/- THE SECOND FORM. 'bulk': how many values and letters a reading holds, each counted each time it is reached (what is shared counts as often as it is met; a slice's spare places count too). A statement '..UptoSaid' is the law's where the arguments, and the package variables that the reading takes, are together of bulk at most 1048576: NARROWER than '..Said'. Prove '..Said' where nothing that the law and all that it calls make is longer than what came in: it says more and counts as full. Else prove '..UptoSaid'. A law counts once. -/
mutual
def uptoBulk {H : Type} : DataW H → Nat
  | .lit (.string bytes) => bytes.length + 1
  | .lit _ => 1
  | .nil => 1
  | .ptr d => uptoBulk d + 1
  | .slice elems spare => uptoBulkAll elems + uptoBulkAll spare + 1
  | .agg parts => uptoBulkAll parts + 1
  | .iface _ d => uptoBulk d + 1
  | .map entries => uptoBulkEntries entries + 1
  | .held _ => 1
def uptoBulkAll {H : Type} : List (DataW H) → Nat
  | [] => 0
  | d :: r => uptoBulk d + uptoBulkAll r
def uptoBulkEntries {H : Type} : List (Lit × DataW H) → Nat
  | [] => 0
  | x :: r => uptoBulkEntry x + uptoBulkEntries r
def uptoBulkEntry {H : Type} : Lit × DataW H → Nat
  | (.string bytes, d) => bytes.length + uptoBulk d + 1
  | (_, d) => uptoBulk d + 1
 end
def uptoSmall : (H : Type) → List (DataW H) → Bool := fun _ ds => decide (uptoBulkAll ds ≤ 1048576)
def OpenSpec.upto (s : _root_.Go.ChangeSpec) : _root_.Go.OpenSpec := { _root_.Go.OpenSpec.ofChange s with cond := some uptoSmall }

/-- 'librarylaw28.PatronRight', WHERE WHAT IT READS IS OF BULK AT MOST 1048576: true; the input reads as it did. -/
def patronRightUptoRow : OpenClaim := { program := "ytlpeppigebbfkaadoor", sum := "3dacc9d60d97469b002b047fe7f233616d333fc679bb99f818ec004dfcc2a08a", func := "library/librarylaw28.PatronRight", spec := "patronRight", inPlace := ["slices.overlaps[library/api.Patron]", "internal/abi.NoEscape", "internal/bytealg.MakeNoZero", "internal/bytealg.CountString", "internal/bytealg.IndexByteString", "internal/bytealg.IndexString"], unfollowed := true, recurses := true, named := ["unicode/utf8.first", "unicode/utf8.acceptRanges", "internal/bytealg.MaxLen"], apart := false, laid := [("unicode/utf8.acceptRanges", laid_unicode_utf8_acceptRanges), ("unicode/utf8.first", laid_unicode_utf8_first)], narrowed := true }
def PatronRightUptoSaid : Prop := patronRightUptoRow.holds Tryd.pinned (OpenSpec.upto patronRightSpec)

/-- 'librarylaw28.PatronAdds', WHERE WHAT IT READS IS OF BULK AT MOST 1048576: true; the input reads as it did. -/
def patronAddsUptoRow : OpenClaim := { program := "ytlpeppigebbfkaadoor", sum := "3dacc9d60d97469b002b047fe7f233616d333fc679bb99f818ec004dfcc2a08a", func := "library/librarylaw28.PatronAdds", spec := "patronAdds", inPlace := ["slices.overlaps[library/api.Patron]", "internal/abi.NoEscape", "internal/bytealg.MakeNoZero", "internal/bytealg.CountString", "internal/bytealg.IndexByteString", "internal/bytealg.IndexString"], unfollowed := true, recurses := true, named := ["unicode/utf8.first", "unicode/utf8.acceptRanges", "internal/bytealg.MaxLen"], apart := false, laid := [("unicode/utf8.acceptRanges", laid_unicode_utf8_acceptRanges), ("unicode/utf8.first", laid_unicode_utf8_first)], narrowed := true }
def PatronAddsUptoSaid : Prop := patronAddsUptoRow.holds Tryd.pinned (OpenSpec.upto patronAddsSpec)

/-- 'librarylaw28.PatronReasons', WHERE WHAT IT READS IS OF BULK AT MOST 1048576: true; the input reads as it did. -/
def patronReasonsUptoRow : OpenClaim := { program := "ytlpeppigebbfkaadoor", sum := "3dacc9d60d97469b002b047fe7f233616d333fc679bb99f818ec004dfcc2a08a", func := "library/librarylaw28.PatronReasons", spec := "patronReasons", inPlace := ["slices.overlaps[library/api.Patron]", "internal/abi.NoEscape", "internal/bytealg.MakeNoZero", "internal/bytealg.CountString", "internal/bytealg.IndexByteString", "internal/bytealg.IndexString"], unfollowed := true, recurses := true, named := ["unicode/utf8.first", "unicode/utf8.acceptRanges", "internal/bytealg.MaxLen"], apart := false, laid := [("unicode/utf8.acceptRanges", laid_unicode_utf8_acceptRanges), ("unicode/utf8.first", laid_unicode_utf8_first)], narrowed := true }
def PatronReasonsUptoSaid : Prop := patronReasonsUptoRow.holds Tryd.pinned (OpenSpec.upto patronReasonsSpec)

/-- 'librarylaw28.PatronSearch', WHERE WHAT IT READS IS OF BULK AT MOST 1048576: true; the input reads as it did. -/
def patronSearchUptoRow : OpenClaim := { program := "ytlpeppigebbfkaadoor", sum := "3dacc9d60d97469b002b047fe7f233616d333fc679bb99f818ec004dfcc2a08a", func := "library/librarylaw28.PatronSearch", spec := "patronSearch", inPlace := ["slices.overlaps[library/api.Patron]", "internal/abi.NoEscape", "internal/bytealg.MakeNoZero", "internal/bytealg.CountString", "internal/bytealg.IndexByteString", "internal/bytealg.IndexString"], unfollowed := true, recurses := true, named := ["unicode/utf8.first", "unicode/utf8.acceptRanges", "internal/bytealg.MaxLen"], apart := false, laid := [("unicode/utf8.acceptRanges", laid_unicode_utf8_acceptRanges), ("unicode/utf8.first", laid_unicode_utf8_first)], narrowed := true }
def PatronSearchUptoSaid : Prop := patronSearchUptoRow.holds Tryd.pinned (OpenSpec.upto patronSearchSpec)

/-- 'librarylaw28.PatronGets', WHERE WHAT IT READS IS OF BULK AT MOST 1048576: true; the input reads as it did. -/
def patronGetsUptoRow : OpenClaim := { program := "ytlpeppigebbfkaadoor", sum := "3dacc9d60d97469b002b047fe7f233616d333fc679bb99f818ec004dfcc2a08a", func := "library/librarylaw28.PatronGets", spec := "patronGets", inPlace := ["slices.overlaps[library/api.Patron]", "internal/abi.NoEscape", "internal/bytealg.MakeNoZero", "internal/bytealg.CountString", "internal/bytealg.IndexByteString", "internal/bytealg.IndexString"], unfollowed := true, recurses := true, named := ["unicode/utf8.first", "unicode/utf8.acceptRanges", "internal/bytealg.MaxLen"], apart := false, laid := [("unicode/utf8.acceptRanges", laid_unicode_utf8_acceptRanges), ("unicode/utf8.first", laid_unicode_utf8_first)], narrowed := true }
def PatronGetsUptoSaid : Prop := patronGetsUptoRow.holds Tryd.pinned (OpenSpec.upto patronGetsSpec)

/-- 'librarylaw28.PatronBack', WHERE WHAT IT READS IS OF BULK AT MOST 1048576: true; the input reads as it did. -/
def patronBackUptoRow : OpenClaim := { program := "ytlpeppigebbfkaadoor", sum := "3dacc9d60d97469b002b047fe7f233616d333fc679bb99f818ec004dfcc2a08a", func := "library/librarylaw28.PatronBack", spec := "patronBack", inPlace := ["slices.overlaps[library/api.Patron]", "internal/abi.NoEscape", "internal/bytealg.MakeNoZero", "internal/bytealg.CountString", "internal/bytealg.IndexByteString", "internal/bytealg.IndexString"], unfollowed := true, recurses := true, named := ["unicode/utf8.first", "unicode/utf8.acceptRanges", "internal/bytealg.MaxLen"], apart := false, laid := [("unicode/utf8.acceptRanges", laid_unicode_utf8_acceptRanges), ("unicode/utf8.first", laid_unicode_utf8_first)], narrowed := true }
def PatronBackUptoSaid : Prop := patronBackUptoRow.holds Tryd.pinned (OpenSpec.upto patronBackSpec)

/-- 'librarylaw28.PatronReplaces', WHERE WHAT IT READS IS OF BULK AT MOST 1048576: true; the input reads as it did. -/
def patronReplacesUptoRow : OpenClaim := { program := "ytlpeppigebbfkaadoor", sum := "3dacc9d60d97469b002b047fe7f233616d333fc679bb99f818ec004dfcc2a08a", func := "library/librarylaw28.PatronReplaces", spec := "patronReplaces", inPlace := ["slices.overlaps[library/api.Patron]", "internal/abi.NoEscape", "internal/bytealg.MakeNoZero", "internal/bytealg.CountString", "internal/bytealg.IndexByteString", "internal/bytealg.IndexString"], unfollowed := true, recurses := true, named := ["unicode/utf8.first", "unicode/utf8.acceptRanges", "internal/bytealg.MaxLen"], apart := false, laid := [("unicode/utf8.acceptRanges", laid_unicode_utf8_acceptRanges), ("unicode/utf8.first", laid_unicode_utf8_first)], narrowed := true }
def PatronReplacesUptoSaid : Prop := patronReplacesUptoRow.holds Tryd.pinned (OpenSpec.upto patronReplacesSpec)

end Rows
end Go.Proofs.YtlpeppigebbfkaaDoor
