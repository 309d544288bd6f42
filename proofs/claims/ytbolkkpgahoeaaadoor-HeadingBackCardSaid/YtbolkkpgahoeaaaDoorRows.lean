/-
  NARROWER THAN 'FOR EVERY INPUT', by the rows' own cells (each row's printed sentence says how): HeadingParts: laid · HeadingNorms: laid · HeadingJoins: laid · HeadingAbove: laid · HeadingNames: laid · HeadingTexts: laid · HeadingAgain: laid · HeadingBack: laid.
  DERIVED. THE GIVEN ROWS OF THIS SEAT. 8 by the template 'for every input the law returns true; each argument reads behind the call as it read before'; 0 by the template 'total and deterministic' (their statements: YtbolkkpgahoeaaaDoorTotals.lean).
  GIVEN WITH THE SEED: the statements are not yours to turn. If you find one false, say at which input.
  Laid BY PROGRAM, IN A SANDBOX (cutbox-rows.mjs): the forced cells as the released guide's own fill.sh prints them over the translation 1d5a0a13d9ff175c… (all of the seat's roots in one cut). By AI agents, Wed Nov 11 2026. No macro, syntax, notation, axiom, sorry.
-/
import Derived.Test.YtbolkkpgahoeaaaDoorChecked
import GoSem.PinnedTables
import GoSem.Claim
import GoSem.ClaimJoined
import GoSem.ClaimMapViews
import Derived.JoinedTies
import Derived.KernelRfl
namespace Go.Proofs.YtbolkkpgahoeaaaDoor
/- THE CELL 'sum', in the pinned program and in every row, IS THE sha256 OF THE DUMP (.gsa) THAT YtbolkkpgahoeaaaDoorProg.lean LOADS. Nothing in Lean hashes anything: it is a label: what it is worth is what the hold of that sum in a sandbox is worth. -/
noncomputable def Tryd.pinned : Pinned := { name := "ytbolkkpgahoeaaadoor", sum := "1d5a0a13d9ff175cf10ab89abcb5a1d2bf643f2696ba85b8a204097ede732573", checked := Tryd.checked }
namespace Rows
def none {H : Type} : Left H := { results := [], args := [] }

/- WHAT THE LISTED PACKAGE-LEVEL VARIABLES READ AS WHEN THE CALL BEGINS. Each datum BY PROGRAM (the guide's laid-datum.mjs) off the statement by which the dump's own 'gosem.cut.vars' lays the variable. In a bare row this is a premise. The card (YtbolkkpgahoeaaaDoorCards.lean) ties it to the program's text. -/
def laid_unicode_utf8_acceptRanges {H : Type} : DataW H := .agg [.agg [.lit (.int .u8 128), .lit (.int .u8 191)], .agg [.lit (.int .u8 160), .lit (.int .u8 191)], .agg [.lit (.int .u8 128), .lit (.int .u8 159)], .agg [.lit (.int .u8 144), .lit (.int .u8 191)], .agg [.lit (.int .u8 128), .lit (.int .u8 143)], .agg [.lit (.int .u8 0), .lit (.int .u8 0)], .agg [.lit (.int .u8 0), .lit (.int .u8 0)], .agg [.lit (.int .u8 0), .lit (.int .u8 0)], .agg [.lit (.int .u8 0), .lit (.int .u8 0)], .agg [.lit (.int .u8 0), .lit (.int .u8 0)], .agg [.lit (.int .u8 0), .lit (.int .u8 0)], .agg [.lit (.int .u8 0), .lit (.int .u8 0)], .agg [.lit (.int .u8 0), .lit (.int .u8 0)], .agg [.lit (.int .u8 0), .lit (.int .u8 0)], .agg [.lit (.int .u8 0), .lit (.int .u8 0)], .agg [.lit (.int .u8 0), .lit (.int .u8 0)]]
/-- One of Go's own tables, pinned by name: the form's constant. -/
def laid_unicode_utf8_first : DataW Unit := Go.Pinned.utf8First

/-- 'librarylaw12.HeadingParts': WHATEVER THE INPUT: true; the input reads as it did. -/
def headingPartsSpec : ChangeSpec := { name := "headingParts", fn := fun _ => fun
  | [d] => { results := [.lit (.bool true)], args := [d] }
  | _ => none }
def headingPartsRow : OpenClaim := { program := "ytbolkkpgahoeaaadoor", sum := "1d5a0a13d9ff175cf10ab89abcb5a1d2bf643f2696ba85b8a204097ede732573", func := "library/librarylaw12.HeadingParts", spec := "headingParts", inPlace := ["internal/bytealg.CountString", "internal/bytealg.IndexByteString", "internal/bytealg.IndexString", "internal/abi.NoEscape", "internal/bytealg.MakeNoZero"], unfollowed := true, recurses := true, named := ["unicode/utf8.first", "unicode/utf8.acceptRanges", "internal/bytealg.MaxLen"], apart := false, laid := [("unicode/utf8.acceptRanges", laid_unicode_utf8_acceptRanges), ("unicode/utf8.first", laid_unicode_utf8_first)] }
def HeadingPartsSaid : Prop := headingPartsRow.holds Tryd.pinned (OpenSpec.ofChange headingPartsSpec)

/-- ITS FALSE NEIGHBOUR: 'it returns false'. Refute it at one input. -/
def headingPartsWrong : ChangeSpec := { name := "headingParts", fn := fun _ => fun
  | [d] => { results := [.lit (.bool false)], args := [d] }
  | _ => none }
def HeadingPartsWrongFalsely : Prop := headingPartsRow.holds Tryd.pinned (OpenSpec.ofChange headingPartsWrong)

/-- 'librarylaw12.HeadingNorms': WHATEVER THE INPUT: true; the input reads as it did. -/
def headingNormsSpec : ChangeSpec := { name := "headingNorms", fn := fun _ => fun
  | [d1, d2] => { results := [.lit (.bool true)], args := [d1, d2] }
  | _ => none }
def headingNormsRow : OpenClaim := { program := "ytbolkkpgahoeaaadoor", sum := "1d5a0a13d9ff175cf10ab89abcb5a1d2bf643f2696ba85b8a204097ede732573", func := "library/librarylaw12.HeadingNorms", spec := "headingNorms", inPlace := ["internal/bytealg.CountString", "internal/bytealg.IndexByteString", "internal/bytealg.IndexString", "internal/abi.NoEscape", "internal/bytealg.MakeNoZero"], unfollowed := true, recurses := true, named := ["unicode/utf8.first", "unicode/utf8.acceptRanges", "internal/bytealg.MaxLen"], apart := false, laid := [("unicode/utf8.acceptRanges", laid_unicode_utf8_acceptRanges), ("unicode/utf8.first", laid_unicode_utf8_first)] }
def HeadingNormsSaid : Prop := headingNormsRow.holds Tryd.pinned (OpenSpec.ofChange headingNormsSpec)

/-- ITS FALSE NEIGHBOUR: 'it returns false'. Refute it at one input. -/
def headingNormsWrong : ChangeSpec := { name := "headingNorms", fn := fun _ => fun
  | [d1, d2] => { results := [.lit (.bool false)], args := [d1, d2] }
  | _ => none }
def HeadingNormsWrongFalsely : Prop := headingNormsRow.holds Tryd.pinned (OpenSpec.ofChange headingNormsWrong)

/-- 'librarylaw12.HeadingJoins': WHATEVER THE INPUT: true; the input reads as it did. -/
def headingJoinsSpec : ChangeSpec := { name := "headingJoins", fn := fun _ => fun
  | [d] => { results := [.lit (.bool true)], args := [d] }
  | _ => none }
def headingJoinsRow : OpenClaim := { program := "ytbolkkpgahoeaaadoor", sum := "1d5a0a13d9ff175cf10ab89abcb5a1d2bf643f2696ba85b8a204097ede732573", func := "library/librarylaw12.HeadingJoins", spec := "headingJoins", inPlace := ["internal/bytealg.CountString", "internal/bytealg.IndexByteString", "internal/bytealg.IndexString", "internal/abi.NoEscape", "internal/bytealg.MakeNoZero"], unfollowed := true, recurses := true, named := ["unicode/utf8.first", "unicode/utf8.acceptRanges", "internal/bytealg.MaxLen"], apart := false, laid := [("unicode/utf8.acceptRanges", laid_unicode_utf8_acceptRanges), ("unicode/utf8.first", laid_unicode_utf8_first)] }
def HeadingJoinsSaid : Prop := headingJoinsRow.holds Tryd.pinned (OpenSpec.ofChange headingJoinsSpec)

/-- ITS FALSE NEIGHBOUR: 'it returns false'. Refute it at one input. -/
def headingJoinsWrong : ChangeSpec := { name := "headingJoins", fn := fun _ => fun
  | [d] => { results := [.lit (.bool false)], args := [d] }
  | _ => none }
def HeadingJoinsWrongFalsely : Prop := headingJoinsRow.holds Tryd.pinned (OpenSpec.ofChange headingJoinsWrong)

/-- 'librarylaw12.HeadingAbove': WHATEVER THE INPUT: true; the input reads as it did. -/
def headingAboveSpec : ChangeSpec := { name := "headingAbove", fn := fun _ => fun
  | [d] => { results := [.lit (.bool true)], args := [d] }
  | _ => none }
def headingAboveRow : OpenClaim := { program := "ytbolkkpgahoeaaadoor", sum := "1d5a0a13d9ff175cf10ab89abcb5a1d2bf643f2696ba85b8a204097ede732573", func := "library/librarylaw12.HeadingAbove", spec := "headingAbove", inPlace := ["internal/bytealg.CountString", "internal/bytealg.IndexByteString", "internal/bytealg.IndexString", "internal/abi.NoEscape", "internal/bytealg.MakeNoZero"], unfollowed := true, recurses := true, named := ["unicode/utf8.first", "unicode/utf8.acceptRanges", "internal/bytealg.MaxLen"], apart := false, laid := [("unicode/utf8.acceptRanges", laid_unicode_utf8_acceptRanges), ("unicode/utf8.first", laid_unicode_utf8_first)] }
def HeadingAboveSaid : Prop := headingAboveRow.holds Tryd.pinned (OpenSpec.ofChange headingAboveSpec)

/-- ITS FALSE NEIGHBOUR: 'it returns false'. Refute it at one input. -/
def headingAboveWrong : ChangeSpec := { name := "headingAbove", fn := fun _ => fun
  | [d] => { results := [.lit (.bool false)], args := [d] }
  | _ => none }
def HeadingAboveWrongFalsely : Prop := headingAboveRow.holds Tryd.pinned (OpenSpec.ofChange headingAboveWrong)

/-- 'librarylaw12.HeadingNames': WHATEVER THE INPUT: true; the input reads as it did. -/
def headingNamesSpec : ChangeSpec := { name := "headingNames", fn := fun _ => fun
  | [d] => { results := [.lit (.bool true)], args := [d] }
  | _ => none }
def headingNamesRow : OpenClaim := { program := "ytbolkkpgahoeaaadoor", sum := "1d5a0a13d9ff175cf10ab89abcb5a1d2bf643f2696ba85b8a204097ede732573", func := "library/librarylaw12.HeadingNames", spec := "headingNames", inPlace := ["internal/bytealg.CountString", "internal/bytealg.IndexByteString", "internal/bytealg.IndexString", "internal/abi.NoEscape", "internal/bytealg.MakeNoZero"], unfollowed := true, recurses := true, named := ["unicode/utf8.first", "unicode/utf8.acceptRanges", "internal/bytealg.MaxLen"], apart := false, laid := [("unicode/utf8.acceptRanges", laid_unicode_utf8_acceptRanges), ("unicode/utf8.first", laid_unicode_utf8_first)] }
def HeadingNamesSaid : Prop := headingNamesRow.holds Tryd.pinned (OpenSpec.ofChange headingNamesSpec)

/-- ITS FALSE NEIGHBOUR: 'it returns false'. Refute it at one input. -/
def headingNamesWrong : ChangeSpec := { name := "headingNames", fn := fun _ => fun
  | [d] => { results := [.lit (.bool false)], args := [d] }
  | _ => none }
def HeadingNamesWrongFalsely : Prop := headingNamesRow.holds Tryd.pinned (OpenSpec.ofChange headingNamesWrong)

/-- 'librarylaw12.HeadingTexts': WHATEVER THE INPUT: true; the input reads as it did. -/
def headingTextsSpec : ChangeSpec := { name := "headingTexts", fn := fun _ => fun
  | [d] => { results := [.lit (.bool true)], args := [d] }
  | _ => none }
def headingTextsRow : OpenClaim := { program := "ytbolkkpgahoeaaadoor", sum := "1d5a0a13d9ff175cf10ab89abcb5a1d2bf643f2696ba85b8a204097ede732573", func := "library/librarylaw12.HeadingTexts", spec := "headingTexts", inPlace := ["internal/bytealg.CountString", "internal/bytealg.IndexByteString", "internal/bytealg.IndexString", "internal/abi.NoEscape", "internal/bytealg.MakeNoZero"], unfollowed := true, recurses := true, named := ["unicode/utf8.first", "unicode/utf8.acceptRanges", "internal/bytealg.MaxLen"], apart := false, laid := [("unicode/utf8.acceptRanges", laid_unicode_utf8_acceptRanges), ("unicode/utf8.first", laid_unicode_utf8_first)] }
def HeadingTextsSaid : Prop := headingTextsRow.holds Tryd.pinned (OpenSpec.ofChange headingTextsSpec)

/-- ITS FALSE NEIGHBOUR: 'it returns false'. Refute it at one input. -/
def headingTextsWrong : ChangeSpec := { name := "headingTexts", fn := fun _ => fun
  | [d] => { results := [.lit (.bool false)], args := [d] }
  | _ => none }
def HeadingTextsWrongFalsely : Prop := headingTextsRow.holds Tryd.pinned (OpenSpec.ofChange headingTextsWrong)

/-- 'librarylaw12.HeadingAgain': WHATEVER THE INPUT: true; the input reads as it did. -/
def headingAgainSpec : ChangeSpec := { name := "headingAgain", fn := fun _ => fun
  | [d] => { results := [.lit (.bool true)], args := [d] }
  | _ => none }
def headingAgainRow : OpenClaim := { program := "ytbolkkpgahoeaaadoor", sum := "1d5a0a13d9ff175cf10ab89abcb5a1d2bf643f2696ba85b8a204097ede732573", func := "library/librarylaw12.HeadingAgain", spec := "headingAgain", inPlace := ["internal/bytealg.CountString", "internal/bytealg.IndexByteString", "internal/bytealg.IndexString", "internal/abi.NoEscape", "internal/bytealg.MakeNoZero"], unfollowed := true, recurses := true, named := ["unicode/utf8.first", "unicode/utf8.acceptRanges", "internal/bytealg.MaxLen"], apart := false, laid := [("unicode/utf8.acceptRanges", laid_unicode_utf8_acceptRanges), ("unicode/utf8.first", laid_unicode_utf8_first)] }
def HeadingAgainSaid : Prop := headingAgainRow.holds Tryd.pinned (OpenSpec.ofChange headingAgainSpec)

/-- ITS FALSE NEIGHBOUR: 'it returns false'. Refute it at one input. -/
def headingAgainWrong : ChangeSpec := { name := "headingAgain", fn := fun _ => fun
  | [d] => { results := [.lit (.bool false)], args := [d] }
  | _ => none }
def HeadingAgainWrongFalsely : Prop := headingAgainRow.holds Tryd.pinned (OpenSpec.ofChange headingAgainWrong)

/-- 'librarylaw12.HeadingBack': WHATEVER THE INPUT: true; the input reads as it did. -/
def headingBackSpec : ChangeSpec := { name := "headingBack", fn := fun _ => fun
  | [d1, d2] => { results := [.lit (.bool true)], args := [d1, d2] }
  | _ => none }
def headingBackRow : OpenClaim := { program := "ytbolkkpgahoeaaadoor", sum := "1d5a0a13d9ff175cf10ab89abcb5a1d2bf643f2696ba85b8a204097ede732573", func := "library/librarylaw12.HeadingBack", spec := "headingBack", inPlace := ["internal/bytealg.CountString", "internal/bytealg.IndexByteString", "internal/bytealg.IndexString", "internal/abi.NoEscape", "internal/bytealg.MakeNoZero"], unfollowed := true, recurses := true, named := ["unicode/utf8.first", "unicode/utf8.acceptRanges", "internal/bytealg.MaxLen"], apart := false, laid := [("unicode/utf8.acceptRanges", laid_unicode_utf8_acceptRanges), ("unicode/utf8.first", laid_unicode_utf8_first)] }
def HeadingBackSaid : Prop := headingBackRow.holds Tryd.pinned (OpenSpec.ofChange headingBackSpec)

/-- ITS FALSE NEIGHBOUR: 'it returns false'. Refute it at one input. -/
def headingBackWrong : ChangeSpec := { name := "headingBack", fn := fun _ => fun
  | [d1, d2] => { results := [.lit (.bool false)], args := [d1, d2] }
  | _ => none }
def HeadingBackWrongFalsely : Prop := headingBackRow.holds Tryd.pinned (OpenSpec.ofChange headingBackWrong)

/- THE SECOND FORM. 'bulk': how many values and letters a reading holds, each counted each time it is reached (what is shared counts as often as it is met; a slice's spare places count too). A statement '..UptoSaid' is the law's where the arguments, and the package variables that the reading takes, are together of bulk at most 1048576: NARROWER than '..Said'. Prove '..Said' where nothing that the law and all that it calls make is longer than what came in: it says more and counts as full. Else prove '..UptoSaid'. A law counts once. -/
mutual
def uptoBulk {H : Type} : DataW H → Nat
  | .lit (.string bytes) => bytes.length + 1
  | .lit _ => 1
  | .nil => 1
  | .ptr d => uptoBulk d + 1
  | .slice elems spare => uptoBulkAll elems + uptoBulkAll spare + 1
  | .agg parts => uptoBulkAll parts + 1
  | .iface _ d => uptoBulk d + 1
  | .map entries => uptoBulkEntries entries + 1
  | .held _ => 1
def uptoBulkAll {H : Type} : List (DataW H) → Nat
  | [] => 0
  | d :: r => uptoBulk d + uptoBulkAll r
def uptoBulkEntries {H : Type} : List (Lit × DataW H) → Nat
  | [] => 0
  | x :: r => uptoBulkEntry x + uptoBulkEntries r
def uptoBulkEntry {H : Type} : Lit × DataW H → Nat
  | (.string bytes, d) => bytes.length + uptoBulk d + 1
  | (_, d) => uptoBulk d + 1
 end
def uptoSmall : (H : Type) → List (DataW H) → Bool := fun _ ds => decide (uptoBulkAll ds ≤ 1048576)
def OpenSpec.upto (s : _root_.Go.ChangeSpec) : _root_.Go.OpenSpec := { _root_.Go.OpenSpec.ofChange s with cond := some uptoSmall }

/-- 'librarylaw12.HeadingParts', WHERE WHAT IT READS IS OF BULK AT MOST 1048576: true; the input reads as it did. -/
def headingPartsUptoRow : OpenClaim := { program := "ytbolkkpgahoeaaadoor", sum := "1d5a0a13d9ff175cf10ab89abcb5a1d2bf643f2696ba85b8a204097ede732573", func := "library/librarylaw12.HeadingParts", spec := "headingParts", inPlace := ["internal/bytealg.CountString", "internal/bytealg.IndexByteString", "internal/bytealg.IndexString", "internal/abi.NoEscape", "internal/bytealg.MakeNoZero"], unfollowed := true, recurses := true, named := ["unicode/utf8.first", "unicode/utf8.acceptRanges", "internal/bytealg.MaxLen"], apart := false, laid := [("unicode/utf8.acceptRanges", laid_unicode_utf8_acceptRanges), ("unicode/utf8.first", laid_unicode_utf8_first)], narrowed := true }
def HeadingPartsUptoSaid : Prop := headingPartsUptoRow.holds Tryd.pinned (OpenSpec.upto headingPartsSpec)

/-- 'librarylaw12.HeadingNorms', WHERE WHAT IT READS IS OF BULK AT MOST 1048576: true; the input reads as it did. -/
def headingNormsUptoRow : OpenClaim := { program := "ytbolkkpgahoeaaadoor", sum := "1d5a0a13d9ff175cf10ab89abcb5a1d2bf643f2696ba85b8a204097ede732573", func := "library/librarylaw12.HeadingNorms", spec := "headingNorms", inPlace := ["internal/bytealg.CountString", "internal/bytealg.IndexByteString", "internal/bytealg.IndexString", "internal/abi.NoEscape", "internal/bytealg.MakeNoZero"], unfollowed := true, recurses := true, named := ["unicode/utf8.first", "unicode/utf8.acceptRanges", "internal/bytealg.MaxLen"], apart := false, laid := [("unicode/utf8.acceptRanges", laid_unicode_utf8_acceptRanges), ("unicode/utf8.first", laid_unicode_utf8_first)], narrowed := true }
def HeadingNormsUptoSaid : Prop := headingNormsUptoRow.holds Tryd.pinned (OpenSpec.upto headingNormsSpec)

/-- 'librarylaw12.HeadingJoins', WHERE WHAT IT READS IS OF BULK AT MOST 1048576: true; the input reads as it did. -/
def headingJoinsUptoRow : OpenClaim := { program := "ytbolkkpgahoeaaadoor", sum := "1d5a0a13d9ff175cf10ab89abcb5a1d2bf643f2696ba85b8a204097ede732573", func := "library/librarylaw12.HeadingJoins", spec := "headingJoins", inPlace := ["internal/bytealg.CountString", "internal/bytealg.IndexByteString", "internal/bytealg.IndexString", "internal/abi.NoEscape", "internal/bytealg.MakeNoZero"], unfollowed := true, recurses := true, named := ["unicode/utf8.first", "unicode/utf8.acceptRanges", "internal/bytealg.MaxLen"], apart := false, laid := [("unicode/utf8.acceptRanges", laid_unicode_utf8_acceptRanges), ("unicode/utf8.first", laid_unicode_utf8_first)], narrowed := true }
def HeadingJoinsUptoSaid : Prop := headingJoinsUptoRow.holds Tryd.pinned (OpenSpec.upto headingJoinsSpec)

/-- 'librarylaw12.HeadingAbove', WHERE WHAT IT READS IS OF BULK AT MOST 1048576: true; the input reads as it did. -/
def headingAboveUptoRow : OpenClaim := { program := "ytbolkkpgahoeaaadoor", sum := "1d5a0a13d9ff175cf10ab89abcb5a1d2bf643f2696ba85b8a204097ede732573", func := "library/librarylaw12.HeadingAbove", spec := "headingAbove", inPlace := ["internal/bytealg.CountString", "internal/bytealg.IndexByteString", "internal/bytealg.IndexString", "internal/abi.NoEscape", "internal/bytealg.MakeNoZero"], unfollowed := true, recurses := true, named := ["unicode/utf8.first", "unicode/utf8.acceptRanges", "internal/bytealg.MaxLen"], apart := false, laid := [("unicode/utf8.acceptRanges", laid_unicode_utf8_acceptRanges), ("unicode/utf8.first", laid_unicode_utf8_first)], narrowed := true }
def HeadingAboveUptoSaid : Prop := headingAboveUptoRow.holds Tryd.pinned (OpenSpec.upto headingAboveSpec)

/-- 'librarylaw12.HeadingNames', WHERE WHAT IT READS IS OF BULK AT MOST 1048576: true; the input reads as it did. -/
def headingNamesUptoRow : OpenClaim := { program := "ytbolkkpgahoeaaadoor", sum := "1d5a0a13d9ff175cf10ab89abcb5a1d2bf643f2696ba85b8a204097ede732573", func := "library/librarylaw12.HeadingNames", spec := "headingNames", inPlace := ["internal/bytealg.CountString", "internal/bytealg.IndexByteString", "internal/bytealg.IndexString", "internal/abi.NoEscape", "internal/bytealg.MakeNoZero"], unfollowed := true, recurses := true, named := ["unicode/utf8.first", "unicode/utf8.acceptRanges", "internal/bytealg.MaxLen"], apart := false, laid := [("unicode/utf8.acceptRanges", laid_unicode_utf8_acceptRanges), ("unicode/utf8.first", laid_unicode_utf8_first)], narrowed := true }
def HeadingNamesUptoSaid : Prop := headingNamesUptoRow.holds Tryd.pinned (OpenSpec.upto headingNamesSpec)

/-- 'librarylaw12.HeadingTexts', WHERE WHAT IT READS IS OF BULK AT MOST 1048576: true; the input reads as it did. -/
def headingTextsUptoRow : OpenClaim := { program := "ytbolkkpgahoeaaadoor", sum := "1d5a0a13d9ff175cf10ab89abcb5a1d2bf643f2696ba85b8a204097ede732573", func := "library/librarylaw12.HeadingTexts", spec := "headingTexts", inPlace := ["internal/bytealg.CountString", "internal/bytealg.IndexByteString", "internal/bytealg.IndexString", "internal/abi.NoEscape", "internal/bytealg.MakeNoZero"], unfollowed := true, recurses := true, named := ["unicode/utf8.first", "unicode/utf8.acceptRanges", "internal/bytealg.MaxLen"], apart := false, laid := [("unicode/utf8.acceptRanges", laid_unicode_utf8_acceptRanges), ("unicode/utf8.first", laid_unicode_utf8_first)], narrowed := true }
def HeadingTextsUptoSaid : Prop := headingTextsUptoRow.holds Tryd.pinned (OpenSpec.upto headingTextsSpec)

/-- 'librarylaw12.HeadingAgain', WHERE WHAT IT READS IS OF BULK AT MOST 1048576: true; the input reads as it did. -/
def headingAgainUptoRow : OpenClaim := { program := "ytbolkkpgahoeaaadoor", sum := "1d5a0a13d9ff175cf10ab89abcb5a1d2bf643f2696ba85b8a204097ede732573", func := "library/librarylaw12.HeadingAgain", spec := "headingAgain", inPlace := ["internal/bytealg.CountString", "internal/bytealg.IndexByteString", "internal/bytealg.IndexString", "internal/abi.NoEscape", "internal/bytealg.MakeNoZero"], unfollowed := true, recurses := true, named := ["unicode/utf8.first", "unicode/utf8.acceptRanges", "internal/bytealg.MaxLen"], apart := false, laid := [("unicode/utf8.acceptRanges", laid_unicode_utf8_acceptRanges), ("unicode/utf8.first", laid_unicode_utf8_first)], narrowed := true }
def HeadingAgainUptoSaid : Prop := headingAgainUptoRow.holds Tryd.pinned (OpenSpec.upto headingAgainSpec)

/-- 'librarylaw12.HeadingBack', WHERE WHAT IT READS IS OF BULK AT MOST 1048576: true; the input reads as it did. -/
def headingBackUptoRow : OpenClaim := { program := "ytbolkkpgahoeaaadoor", sum := "1d5a0a13d9ff175cf10ab89abcb5a1d2bf643f2696ba85b8a204097ede732573", func := "library/librarylaw12.HeadingBack", spec := "headingBack", inPlace := ["internal/bytealg.CountString", "internal/bytealg.IndexByteString", "internal/bytealg.IndexString", "internal/abi.NoEscape", "internal/bytealg.MakeNoZero"], unfollowed := true, recurses := true, named := ["unicode/utf8.first", "unicode/utf8.acceptRanges", "internal/bytealg.MaxLen"], apart := false, laid := [("unicode/utf8.acceptRanges", laid_unicode_utf8_acceptRanges), ("unicode/utf8.first", laid_unicode_utf8_first)], narrowed := true }
def HeadingBackUptoSaid : Prop := headingBackUptoRow.holds Tryd.pinned (OpenSpec.upto headingBackSpec)

end Rows
end Go.Proofs.YtbolkkpgahoeaaaDoor
