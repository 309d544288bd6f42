/-
  NARROWER THAN 'FOR EVERY INPUT', by the rows' own cells (each row's printed sentence says how): CollateSkips: laid · CollateKeys: laid · CollateCompares: laid · CollateOrders: laid · CollateSeparates: laid · CollateArticles: laid · CollateSorts: laid · CollatePermutes: laid.
  DERIVED. THE GIVEN ROWS OF THIS SEAT. 8 by the template 'for every input the law returns true; each argument reads behind the call as it read before'; 0 by the template 'total and deterministic' (their statements: YtieapjdkbigejaaDoorTotals.lean).
  GIVEN WITH THE SEED: the statements are not yours to turn. If you find one false, say at which input.
  Laid BY PROGRAM, IN A SANDBOX (cutbox-rows.mjs): the forced cells as the released guide's own fill.sh prints them over the translation c810e26374189554… (all of the seat's roots in one cut). By AI agents, Wed Nov 11 2026. No macro, syntax, notation, axiom, sorry.
-/
import Derived.Test.YtieapjdkbigejaaDoorChecked
import GoSem.PinnedTables
import GoSem.Claim
import GoSem.ClaimJoined
import GoSem.ClaimMapViews
import Derived.JoinedTies
import Derived.KernelRfl
namespace Go.Proofs.YtieapjdkbigejaaDoor
/- THE CELL 'sum', in the pinned program and in every row, IS THE sha256 OF THE DUMP (.gsa) THAT YtieapjdkbigejaaDoorProg.lean LOADS. Nothing in Lean hashes anything: it is a label: what it is worth is what the hold of that sum in a sandbox is worth. -/
noncomputable def Tryd.pinned : Pinned := { name := "ytieapjdkbigejaadoor", sum := "c810e26374189554ac299db3a526c064ed1e8134c396add4236d4527bc8816f7", checked := Tryd.checked }
namespace Rows
def none {H : Type} : Left H := { results := [], args := [] }

/- WHAT THE LISTED PACKAGE-LEVEL VARIABLES READ AS WHEN THE CALL BEGINS. Each datum BY PROGRAM (the guide's laid-datum.mjs) off the statement by which the dump's own 'gosem.cut.vars' lays the variable. In a bare row this is a premise. The card (YtieapjdkbigejaaDoorCards.lean) ties it to the program's text. -/
def laid_unicode_utf8_acceptRanges {H : Type} : DataW H := .agg [.agg [.lit (.int .u8 128), .lit (.int .u8 191)], .agg [.lit (.int .u8 160), .lit (.int .u8 191)], .agg [.lit (.int .u8 128), .lit (.int .u8 159)], .agg [.lit (.int .u8 144), .lit (.int .u8 191)], .agg [.lit (.int .u8 128), .lit (.int .u8 143)], .agg [.lit (.int .u8 0), .lit (.int .u8 0)], .agg [.lit (.int .u8 0), .lit (.int .u8 0)], .agg [.lit (.int .u8 0), .lit (.int .u8 0)], .agg [.lit (.int .u8 0), .lit (.int .u8 0)], .agg [.lit (.int .u8 0), .lit (.int .u8 0)], .agg [.lit (.int .u8 0), .lit (.int .u8 0)], .agg [.lit (.int .u8 0), .lit (.int .u8 0)], .agg [.lit (.int .u8 0), .lit (.int .u8 0)], .agg [.lit (.int .u8 0), .lit (.int .u8 0)], .agg [.lit (.int .u8 0), .lit (.int .u8 0)], .agg [.lit (.int .u8 0), .lit (.int .u8 0)]]
/-- One of Go's own tables, pinned by name: the form's constant. -/
def laid_unicode_utf8_first : DataW Unit := Go.Pinned.utf8First

/-- 'librarylaw02.CollateSkips': WHATEVER THE INPUT: true; the input reads as it did. -/
def collateSkipsSpec : ChangeSpec := { name := "collateSkips", fn := fun _ => fun
  | [d1, d2] => { results := [.lit (.bool true)], args := [d1, d2] }
  | _ => none }
def collateSkipsRow : OpenClaim := { program := "ytieapjdkbigejaadoor", sum := "c810e26374189554ac299db3a526c064ed1e8134c396add4236d4527bc8816f7", func := "library/librarylaw02.CollateSkips", spec := "collateSkips", inPlace := ["internal/bytealg.IndexByteString", "internal/bytealg.IndexString", "internal/bytealg.CountString", "internal/abi.NoEscape", "internal/bytealg.abigen_runtime_cmpstring"], named := ["internal/bytealg.MaxLen", "unicode/utf8.first", "unicode/utf8.acceptRanges"], apart := false, laid := [("unicode/utf8.acceptRanges", laid_unicode_utf8_acceptRanges), ("unicode/utf8.first", laid_unicode_utf8_first)] }
def CollateSkipsSaid : Prop := collateSkipsRow.holds Tryd.pinned (OpenSpec.ofChange collateSkipsSpec)

/-- ITS FALSE NEIGHBOUR: 'it returns false'. Refute it at one input. -/
def collateSkipsWrong : ChangeSpec := { name := "collateSkips", fn := fun _ => fun
  | [d1, d2] => { results := [.lit (.bool false)], args := [d1, d2] }
  | _ => none }
def CollateSkipsWrongFalsely : Prop := collateSkipsRow.holds Tryd.pinned (OpenSpec.ofChange collateSkipsWrong)

/-- 'librarylaw02.CollateKeys': WHATEVER THE INPUT: true; the input reads as it did. -/
def collateKeysSpec : ChangeSpec := { name := "collateKeys", fn := fun _ => fun
  | [d1, d2] => { results := [.lit (.bool true)], args := [d1, d2] }
  | _ => none }
def collateKeysRow : OpenClaim := { program := "ytieapjdkbigejaadoor", sum := "c810e26374189554ac299db3a526c064ed1e8134c396add4236d4527bc8816f7", func := "library/librarylaw02.CollateKeys", spec := "collateKeys", inPlace := ["internal/abi.NoEscape", "internal/bytealg.CountString", "internal/bytealg.IndexByteString", "internal/bytealg.IndexString", "internal/bytealg.abigen_runtime_cmpstring"], named := ["unicode/utf8.first", "unicode/utf8.acceptRanges", "internal/bytealg.MaxLen"], apart := false, laid := [("unicode/utf8.acceptRanges", laid_unicode_utf8_acceptRanges), ("unicode/utf8.first", laid_unicode_utf8_first)] }
def CollateKeysSaid : Prop := collateKeysRow.holds Tryd.pinned (OpenSpec.ofChange collateKeysSpec)

/-- ITS FALSE NEIGHBOUR: 'it returns false'. Refute it at one input. -/
def collateKeysWrong : ChangeSpec := { name := "collateKeys", fn := fun _ => fun
  | [d1, d2] => { results := [.lit (.bool false)], args := [d1, d2] }
  | _ => none }
def CollateKeysWrongFalsely : Prop := collateKeysRow.holds Tryd.pinned (OpenSpec.ofChange collateKeysWrong)

/-- 'librarylaw02.CollateCompares': WHATEVER THE INPUT: true; the input reads as it did. -/
def collateComparesSpec : ChangeSpec := { name := "collateCompares", fn := fun _ => fun
  | [d1, d2, d3] => { results := [.lit (.bool true)], args := [d1, d2, d3] }
  | _ => none }
def collateComparesRow : OpenClaim := { program := "ytieapjdkbigejaadoor", sum := "c810e26374189554ac299db3a526c064ed1e8134c396add4236d4527bc8816f7", func := "library/librarylaw02.CollateCompares", spec := "collateCompares", inPlace := ["internal/abi.NoEscape", "internal/bytealg.CountString", "internal/bytealg.IndexByteString", "internal/bytealg.IndexString", "internal/bytealg.abigen_runtime_cmpstring"], named := ["unicode/utf8.first", "unicode/utf8.acceptRanges", "internal/bytealg.MaxLen"], apart := false, laid := [("unicode/utf8.acceptRanges", laid_unicode_utf8_acceptRanges), ("unicode/utf8.first", laid_unicode_utf8_first)] }
def CollateComparesSaid : Prop := collateComparesRow.holds Tryd.pinned (OpenSpec.ofChange collateComparesSpec)

/-- ITS FALSE NEIGHBOUR: 'it returns false'. Refute it at one input. -/
def collateComparesWrong : ChangeSpec := { name := "collateCompares", fn := fun _ => fun
  | [d1, d2, d3] => { results := [.lit (.bool false)], args := [d1, d2, d3] }
  | _ => none }
def CollateComparesWrongFalsely : Prop := collateComparesRow.holds Tryd.pinned (OpenSpec.ofChange collateComparesWrong)

/-- 'librarylaw02.CollateOrders': WHATEVER THE INPUT: true; the input reads as it did. -/
def collateOrdersSpec : ChangeSpec := { name := "collateOrders", fn := fun _ => fun
  | [d1, d2] => { results := [.lit (.bool true)], args := [d1, d2] }
  | _ => none }
def collateOrdersRow : OpenClaim := { program := "ytieapjdkbigejaadoor", sum := "c810e26374189554ac299db3a526c064ed1e8134c396add4236d4527bc8816f7", func := "library/librarylaw02.CollateOrders", spec := "collateOrders", inPlace := ["internal/bytealg.IndexByteString", "internal/bytealg.IndexString", "internal/bytealg.CountString", "internal/abi.NoEscape", "internal/bytealg.abigen_runtime_cmpstring"], named := ["internal/bytealg.MaxLen", "unicode/utf8.first", "unicode/utf8.acceptRanges"], apart := false, laid := [("unicode/utf8.acceptRanges", laid_unicode_utf8_acceptRanges), ("unicode/utf8.first", laid_unicode_utf8_first)] }
def CollateOrdersSaid : Prop := collateOrdersRow.holds Tryd.pinned (OpenSpec.ofChange collateOrdersSpec)

/-- ITS FALSE NEIGHBOUR: 'it returns false'. Refute it at one input. -/
def collateOrdersWrong : ChangeSpec := { name := "collateOrders", fn := fun _ => fun
  | [d1, d2] => { results := [.lit (.bool false)], args := [d1, d2] }
  | _ => none }
def CollateOrdersWrongFalsely : Prop := collateOrdersRow.holds Tryd.pinned (OpenSpec.ofChange collateOrdersWrong)

/-- 'librarylaw02.CollateSeparates': WHATEVER THE INPUT: true; the input reads as it did. -/
def collateSeparatesSpec : ChangeSpec := { name := "collateSeparates", fn := fun _ => fun
  | [d1, d2, d3] => { results := [.lit (.bool true)], args := [d1, d2, d3] }
  | _ => none }
def collateSeparatesRow : OpenClaim := { program := "ytieapjdkbigejaadoor", sum := "c810e26374189554ac299db3a526c064ed1e8134c396add4236d4527bc8816f7", func := "library/librarylaw02.CollateSeparates", spec := "collateSeparates", inPlace := ["internal/bytealg.IndexByteString", "internal/bytealg.IndexString", "internal/bytealg.CountString", "internal/abi.NoEscape", "internal/bytealg.abigen_runtime_cmpstring"], named := ["internal/bytealg.MaxLen", "unicode/utf8.first", "unicode/utf8.acceptRanges"], apart := false, laid := [("unicode/utf8.acceptRanges", laid_unicode_utf8_acceptRanges), ("unicode/utf8.first", laid_unicode_utf8_first)] }
def CollateSeparatesSaid : Prop := collateSeparatesRow.holds Tryd.pinned (OpenSpec.ofChange collateSeparatesSpec)

/-- ITS FALSE NEIGHBOUR: 'it returns false'. Refute it at one input. -/
def collateSeparatesWrong : ChangeSpec := { name := "collateSeparates", fn := fun _ => fun
  | [d1, d2, d3] => { results := [.lit (.bool false)], args := [d1, d2, d3] }
  | _ => none }
def CollateSeparatesWrongFalsely : Prop := collateSeparatesRow.holds Tryd.pinned (OpenSpec.ofChange collateSeparatesWrong)

/-- 'librarylaw02.CollateArticles': WHATEVER THE INPUT: true; the input reads as it did. -/
def collateArticlesSpec : ChangeSpec := { name := "collateArticles", fn := fun _ => fun
  | [d1, d2] => { results := [.lit (.bool true)], args := [d1, d2] }
  | _ => none }
def collateArticlesRow : OpenClaim := { program := "ytieapjdkbigejaadoor", sum := "c810e26374189554ac299db3a526c064ed1e8134c396add4236d4527bc8816f7", func := "library/librarylaw02.CollateArticles", spec := "collateArticles", inPlace := ["internal/bytealg.IndexByteString", "internal/bytealg.IndexString", "internal/bytealg.CountString", "internal/abi.NoEscape", "internal/bytealg.abigen_runtime_cmpstring"], named := ["internal/bytealg.MaxLen", "unicode/utf8.first", "unicode/utf8.acceptRanges"], apart := false, laid := [("unicode/utf8.acceptRanges", laid_unicode_utf8_acceptRanges), ("unicode/utf8.first", laid_unicode_utf8_first)] }
def CollateArticlesSaid : Prop := collateArticlesRow.holds Tryd.pinned (OpenSpec.ofChange collateArticlesSpec)

/-- ITS FALSE NEIGHBOUR: 'it returns false'. Refute it at one input. -/
def collateArticlesWrong : ChangeSpec := { name := "collateArticles", fn := fun _ => fun
  | [d1, d2] => { results := [.lit (.bool false)], args := [d1, d2] }
  | _ => none }
def CollateArticlesWrongFalsely : Prop := collateArticlesRow.holds Tryd.pinned (OpenSpec.ofChange collateArticlesWrong)

/-- 'librarylaw02.CollateSorts': WHATEVER THE INPUT: true; the input reads as it did. -/
def collateSortsSpec : ChangeSpec := { name := "collateSorts", fn := fun _ => fun
  | [d1, d2] => { results := [.lit (.bool true)], args := [d1, d2] }
  | _ => none }
def collateSortsRow : OpenClaim := { program := "ytieapjdkbigejaadoor", sum := "c810e26374189554ac299db3a526c064ed1e8134c396add4236d4527bc8816f7", func := "library/librarylaw02.CollateSorts", spec := "collateSorts", inPlace := ["internal/abi.NoEscape", "internal/bytealg.CountString", "internal/bytealg.IndexByteString", "internal/bytealg.IndexString", "internal/bytealg.abigen_runtime_cmpstring"], unfollowed := true, recurses := true, named := ["unicode/utf8.first", "unicode/utf8.acceptRanges", "internal/bytealg.MaxLen"], apart := false, laid := [("unicode/utf8.acceptRanges", laid_unicode_utf8_acceptRanges), ("unicode/utf8.first", laid_unicode_utf8_first)] }
def CollateSortsSaid : Prop := collateSortsRow.holds Tryd.pinned (OpenSpec.ofChange collateSortsSpec)

/-- ITS FALSE NEIGHBOUR: 'it returns false'. Refute it at one input. -/
def collateSortsWrong : ChangeSpec := { name := "collateSorts", fn := fun _ => fun
  | [d1, d2] => { results := [.lit (.bool false)], args := [d1, d2] }
  | _ => none }
def CollateSortsWrongFalsely : Prop := collateSortsRow.holds Tryd.pinned (OpenSpec.ofChange collateSortsWrong)

/-- 'librarylaw02.CollatePermutes': WHATEVER THE INPUT: true; the input reads as it did. -/
def collatePermutesSpec : ChangeSpec := { name := "collatePermutes", fn := fun _ => fun
  | [d1, d2] => { results := [.lit (.bool true)], args := [d1, d2] }
  | _ => none }
def collatePermutesRow : OpenClaim := { program := "ytieapjdkbigejaadoor", sum := "c810e26374189554ac299db3a526c064ed1e8134c396add4236d4527bc8816f7", func := "library/librarylaw02.CollatePermutes", spec := "collatePermutes", inPlace := ["internal/bytealg.IndexByteString", "internal/bytealg.IndexString", "internal/bytealg.CountString", "internal/abi.NoEscape", "internal/bytealg.abigen_runtime_cmpstring"], unfollowed := true, recurses := true, named := ["internal/bytealg.MaxLen", "unicode/utf8.first", "unicode/utf8.acceptRanges"], apart := false, laid := [("unicode/utf8.acceptRanges", laid_unicode_utf8_acceptRanges), ("unicode/utf8.first", laid_unicode_utf8_first)] }
def CollatePermutesSaid : Prop := collatePermutesRow.holds Tryd.pinned (OpenSpec.ofChange collatePermutesSpec)

/-- ITS FALSE NEIGHBOUR: 'it returns false'. Refute it at one input. -/
def collatePermutesWrong : ChangeSpec := { name := "collatePermutes", fn := fun _ => fun
  | [d1, d2] => { results := [.lit (.bool false)], args := [d1, d2] }
  | _ => none }
def CollatePermutesWrongFalsely : Prop := collatePermutesRow.holds Tryd.pinned (OpenSpec.ofChange collatePermutesWrong)

/- THE SECOND FORM. 'bulk': how many values and letters a reading holds, each counted each time it is reached (what is shared counts as often as it is met; a slice's spare places count too). A statement '..UptoSaid' is the law's where the arguments, and the package variables that the reading takes, are together of bulk at most 1048576: NARROWER than '..Said'. Prove '..Said' where nothing that the law and all that it calls make is longer than what came in: it says more and counts as full. Else prove '..UptoSaid'. A law counts once. -/
mutual
def uptoBulk {H : Type} : DataW H → Nat
  | .lit (.string bytes) => bytes.length + 1
  | .lit _ => 1
  | .nil => 1
  | .ptr d => uptoBulk d + 1
  | .slice elems spare => uptoBulkAll elems + uptoBulkAll spare + 1
  | .agg parts => uptoBulkAll parts + 1
  | .iface _ d => uptoBulk d + 1
  | .map entries => uptoBulkEntries entries + 1
  | .held _ => 1
def uptoBulkAll {H : Type} : List (DataW H) → Nat
  | [] => 0
  | d :: r => uptoBulk d + uptoBulkAll r
def uptoBulkEntries {H : Type} : List (Lit × DataW H) → Nat
  | [] => 0
  | x :: r => uptoBulkEntry x + uptoBulkEntries r
def uptoBulkEntry {H : Type} : Lit × DataW H → Nat
  | (.string bytes, d) => bytes.length + uptoBulk d + 1
  | (_, d) => uptoBulk d + 1
 end
def uptoSmall : (H : Type) → List (DataW H) → Bool := fun _ ds => decide (uptoBulkAll ds ≤ 1048576)
def OpenSpec.upto (s : _root_.Go.ChangeSpec) : _root_.Go.OpenSpec := { _root_.Go.OpenSpec.ofChange s with cond := some uptoSmall }

/-- 'librarylaw02.CollateSkips', WHERE WHAT IT READS IS OF BULK AT MOST 1048576: true; the input reads as it did. -/
def collateSkipsUptoRow : OpenClaim := { program := "ytieapjdkbigejaadoor", sum := "c810e26374189554ac299db3a526c064ed1e8134c396add4236d4527bc8816f7", func := "library/librarylaw02.CollateSkips", spec := "collateSkips", inPlace := ["internal/bytealg.IndexByteString", "internal/bytealg.IndexString", "internal/bytealg.CountString", "internal/abi.NoEscape", "internal/bytealg.abigen_runtime_cmpstring"], named := ["internal/bytealg.MaxLen", "unicode/utf8.first", "unicode/utf8.acceptRanges"], apart := false, laid := [("unicode/utf8.acceptRanges", laid_unicode_utf8_acceptRanges), ("unicode/utf8.first", laid_unicode_utf8_first)], narrowed := true }
def CollateSkipsUptoSaid : Prop := collateSkipsUptoRow.holds Tryd.pinned (OpenSpec.upto collateSkipsSpec)

/-- 'librarylaw02.CollateKeys', WHERE WHAT IT READS IS OF BULK AT MOST 1048576: true; the input reads as it did. -/
def collateKeysUptoRow : OpenClaim := { program := "ytieapjdkbigejaadoor", sum := "c810e26374189554ac299db3a526c064ed1e8134c396add4236d4527bc8816f7", func := "library/librarylaw02.CollateKeys", spec := "collateKeys", inPlace := ["internal/abi.NoEscape", "internal/bytealg.CountString", "internal/bytealg.IndexByteString", "internal/bytealg.IndexString", "internal/bytealg.abigen_runtime_cmpstring"], named := ["unicode/utf8.first", "unicode/utf8.acceptRanges", "internal/bytealg.MaxLen"], apart := false, laid := [("unicode/utf8.acceptRanges", laid_unicode_utf8_acceptRanges), ("unicode/utf8.first", laid_unicode_utf8_first)], narrowed := true }
def CollateKeysUptoSaid : Prop := collateKeysUptoRow.holds Tryd.pinned (OpenSpec.upto collateKeysSpec)

/-- 'librarylaw02.CollateCompares', WHERE WHAT IT READS IS OF BULK AT MOST 1048576: true; the input reads as it did. -/
def collateComparesUptoRow : OpenClaim := { program := "ytieapjdkbigejaadoor", sum := "c810e26374189554ac299db3a526c064ed1e8134c396add4236d4527bc8816f7", func := "library/librarylaw02.CollateCompares", spec := "collateCompares", inPlace := ["internal/abi.NoEscape", "internal/bytealg.CountString", "internal/bytealg.IndexByteString", "internal/bytealg.IndexString", "internal/bytealg.abigen_runtime_cmpstring"], named := ["unicode/utf8.first", "unicode/utf8.acceptRanges", "internal/bytealg.MaxLen"], apart := false, laid := [("unicode/utf8.acceptRanges", laid_unicode_utf8_acceptRanges), ("unicode/utf8.first", laid_unicode_utf8_first)], narrowed := true }
def CollateComparesUptoSaid : Prop := collateComparesUptoRow.holds Tryd.pinned (OpenSpec.upto collateComparesSpec)

/-- 'librarylaw02.CollateOrders', WHERE WHAT IT READS IS OF BULK AT MOST 1048576: true; the input reads as it did. -/
def collateOrdersUptoRow : OpenClaim := { program := "ytieapjdkbigejaadoor", sum := "c810e26374189554ac299db3a526c064ed1e8134c396add4236d4527bc8816f7", func := "library/librarylaw02.CollateOrders", spec := "collateOrders", inPlace := ["internal/bytealg.IndexByteString", "internal/bytealg.IndexString", "internal/bytealg.CountString", "internal/abi.NoEscape", "internal/bytealg.abigen_runtime_cmpstring"], named := ["internal/bytealg.MaxLen", "unicode/utf8.first", "unicode/utf8.acceptRanges"], apart := false, laid := [("unicode/utf8.acceptRanges", laid_unicode_utf8_acceptRanges), ("unicode/utf8.first", laid_unicode_utf8_first)], narrowed := true }
def CollateOrdersUptoSaid : Prop := collateOrdersUptoRow.holds Tryd.pinned (OpenSpec.upto collateOrdersSpec)

/-- 'librarylaw02.CollateSeparates', WHERE WHAT IT READS IS OF BULK AT MOST 1048576: true; the input reads as it did. -/
def collateSeparatesUptoRow : OpenClaim := { program := "ytieapjdkbigejaadoor", sum := "c810e26374189554ac299db3a526c064ed1e8134c396add4236d4527bc8816f7", func := "library/librarylaw02.CollateSeparates", spec := "collateSeparates", inPlace := ["internal/bytealg.IndexByteString", "internal/bytealg.IndexString", "internal/bytealg.CountString", "internal/abi.NoEscape", "internal/bytealg.abigen_runtime_cmpstring"], named := ["internal/bytealg.MaxLen", "unicode/utf8.first", "unicode/utf8.acceptRanges"], apart := false, laid := [("unicode/utf8.acceptRanges", laid_unicode_utf8_acceptRanges), ("unicode/utf8.first", laid_unicode_utf8_first)], narrowed := true }
def CollateSeparatesUptoSaid : Prop := collateSeparatesUptoRow.holds Tryd.pinned (OpenSpec.upto collateSeparatesSpec)

/-- 'librarylaw02.CollateArticles', WHERE WHAT IT READS IS OF BULK AT MOST 1048576: true; the input reads as it did. -/
def collateArticlesUptoRow : OpenClaim := { program := "ytieapjdkbigejaadoor", sum := "c810e26374189554ac299db3a526c064ed1e8134c396add4236d4527bc8816f7", func := "library/librarylaw02.CollateArticles", spec := "collateArticles", inPlace := ["internal/bytealg.IndexByteString", "internal/bytealg.IndexString", "internal/bytealg.CountString", "internal/abi.NoEscape", "internal/bytealg.abigen_runtime_cmpstring"], named := ["internal/bytealg.MaxLen", "unicode/utf8.first", "unicode/utf8.acceptRanges"], apart := false, laid := [("unicode/utf8.acceptRanges", laid_unicode_utf8_acceptRanges), ("unicode/utf8.first", laid_unicode_utf8_first)], narrowed := true }
def CollateArticlesUptoSaid : Prop := collateArticlesUptoRow.holds Tryd.pinned (OpenSpec.upto collateArticlesSpec)

/-- 'librarylaw02.CollateSorts', WHERE WHAT IT READS IS OF BULK AT MOST 1048576: true; the input reads as it did. -/
def collateSortsUptoRow : OpenClaim := { program := "ytieapjdkbigejaadoor", sum := "c810e26374189554ac299db3a526c064ed1e8134c396add4236d4527bc8816f7", func := "library/librarylaw02.CollateSorts", spec := "collateSorts", inPlace := ["internal/abi.NoEscape", "internal/bytealg.CountString", "internal/bytealg.IndexByteString", "internal/bytealg.IndexString", "internal/bytealg.abigen_runtime_cmpstring"], unfollowed := true, recurses := true, named := ["unicode/utf8.first", "unicode/utf8.acceptRanges", "internal/bytealg.MaxLen"], apart := false, laid := [("unicode/utf8.acceptRanges", laid_unicode_utf8_acceptRanges), ("unicode/utf8.first", laid_unicode_utf8_first)], narrowed := true }
def CollateSortsUptoSaid : Prop := collateSortsUptoRow.holds Tryd.pinned (OpenSpec.upto collateSortsSpec)

/-- 'librarylaw02.CollatePermutes', WHERE WHAT IT READS IS OF BULK AT MOST 1048576: true; the input reads as it did. -/
def collatePermutesUptoRow : OpenClaim := { program := "ytieapjdkbigejaadoor", sum := "c810e26374189554ac299db3a526c064ed1e8134c396add4236d4527bc8816f7", func := "library/librarylaw02.CollatePermutes", spec := "collatePermutes", inPlace := ["internal/bytealg.IndexByteString", "internal/bytealg.IndexString", "internal/bytealg.CountString", "internal/abi.NoEscape", "internal/bytealg.abigen_runtime_cmpstring"], unfollowed := true, recurses := true, named := ["internal/bytealg.MaxLen", "unicode/utf8.first", "unicode/utf8.acceptRanges"], apart := false, laid := [("unicode/utf8.acceptRanges", laid_unicode_utf8_acceptRanges), ("unicode/utf8.first", laid_unicode_utf8_first)], narrowed := true }
def CollatePermutesUptoSaid : Prop := collatePermutesUptoRow.holds Tryd.pinned (OpenSpec.upto collatePermutesSpec)

end Rows
end Go.Proofs.YtieapjdkbigejaaDoor
