/-
  NARROWER THAN 'FOR EVERY INPUT', by the rows' own cells (each row's printed sentence says how): MigrateRight: laid · MigrateUp: laid · MigrateDown: laid · MigrateTo: laid · MigrateBack: laid · MigrateAll: laid.
  DERIVED. THE GIVEN ROWS OF THIS SEAT. 6 by the template 'for every input the law returns true; each argument reads behind the call as it read before'; 0 by the template 'total and deterministic' (their statements: YtimecccphbgdeaaDoorTotals.lean).
  GIVEN WITH THE SEED: the statements are not yours to turn. If you find one false, say at which input.
  Laid BY PROGRAM, IN A SANDBOX (cutbox-rows.mjs): the forced cells as the released guide's own fill.sh prints them over the translation 2fe82512862118de… (all of the seat's roots in one cut). By AI agents, Wed Nov 11 2026. No macro, syntax, notation, axiom, sorry.
-/
import Derived.Test.YtimecccphbgdeaaDoorChecked
import GoSem.PinnedTables
import GoSem.Claim
import GoSem.ClaimJoined
import GoSem.ClaimMapViews
import Derived.JoinedTies
import Derived.KernelRfl
namespace Go.Proofs.YtimecccphbgdeaaDoor
/- THE CELL 'sum', in the pinned program and in every row, IS THE sha256 OF THE DUMP (.gsa) THAT YtimecccphbgdeaaDoorProg.lean LOADS. Nothing in Lean hashes anything: it is a label: what it is worth is what the hold of that sum in a sandbox is worth. -/
noncomputable def Tryd.pinned : Pinned := { name := "ytimecccphbgdeaadoor", sum := "2fe82512862118de77eba48418ce7ec81d42937b5f491f007d4e12d9e35a4c7a", checked := Tryd.checked }
namespace Rows
def none {H : Type} : Left H := { results := [], args := [] }

/- WHAT THE LISTED PACKAGE-LEVEL VARIABLES READ AS WHEN THE CALL BEGINS. Each datum BY PROGRAM (the guide's laid-datum.mjs) off the statement by which the dump's own 'gosem.cut.vars' lays the variable. In a bare row this is a premise. The card (YtimecccphbgdeaaDoorCards.lean) ties it to the program's text. -/
def laid_unicode_utf8_acceptRanges {H : Type} : DataW H := .agg [.agg [.lit (.int .u8 128), .lit (.int .u8 191)], .agg [.lit (.int .u8 160), .lit (.int .u8 191)], .agg [.lit (.int .u8 128), .lit (.int .u8 159)], .agg [.lit (.int .u8 144), .lit (.int .u8 191)], .agg [.lit (.int .u8 128), .lit (.int .u8 143)], .agg [.lit (.int .u8 0), .lit (.int .u8 0)], .agg [.lit (.int .u8 0), .lit (.int .u8 0)], .agg [.lit (.int .u8 0), .lit (.int .u8 0)], .agg [.lit (.int .u8 0), .lit (.int .u8 0)], .agg [.lit (.int .u8 0), .lit (.int .u8 0)], .agg [.lit (.int .u8 0), .lit (.int .u8 0)], .agg [.lit (.int .u8 0), .lit (.int .u8 0)], .agg [.lit (.int .u8 0), .lit (.int .u8 0)], .agg [.lit (.int .u8 0), .lit (.int .u8 0)], .agg [.lit (.int .u8 0), .lit (.int .u8 0)], .agg [.lit (.int .u8 0), .lit (.int .u8 0)]]
/-- One of Go's own tables, pinned by name: the form's constant. -/
def laid_unicode_utf8_first : DataW Unit := Go.Pinned.utf8First

/-- 'librarylaw18.MigrateRight': WHATEVER THE INPUT: true; the input reads as it did. -/
def migrateRightSpec : ChangeSpec := { name := "migrateRight", fn := fun _ => fun
  | [d] => { results := [.lit (.bool true)], args := [d] }
  | _ => none }
def migrateRightRow : OpenClaim := { program := "ytimecccphbgdeaadoor", sum := "2fe82512862118de77eba48418ce7ec81d42937b5f491f007d4e12d9e35a4c7a", func := "library/librarylaw18.MigrateRight", spec := "migrateRight", inPlace := ["internal/bytealg.IndexByteString", "internal/bytealg.IndexString", "internal/bytealg.CountString", "internal/abi.NoEscape", "internal/bytealg.MakeNoZero"], unfollowed := true, recurses := true, named := ["unicode/utf8.first", "unicode/utf8.acceptRanges", "internal/bytealg.MaxLen"], apart := false, laid := [("unicode/utf8.acceptRanges", laid_unicode_utf8_acceptRanges), ("unicode/utf8.first", laid_unicode_utf8_first)] }
def MigrateRightSaid : Prop := migrateRightRow.holds Tryd.pinned (OpenSpec.ofChange migrateRightSpec)

/-- ITS FALSE NEIGHBOUR: 'it returns false'. Refute it at one input. -/
def migrateRightWrong : ChangeSpec := { name := "migrateRight", fn := fun _ => fun
  | [d] => { results := [.lit (.bool false)], args := [d] }
  | _ => none }
def MigrateRightWrongFalsely : Prop := migrateRightRow.holds Tryd.pinned (OpenSpec.ofChange migrateRightWrong)

/-- 'librarylaw18.MigrateUp': WHATEVER THE INPUT: true; the input reads as it did. -/
def migrateUpSpec : ChangeSpec := { name := "migrateUp", fn := fun _ => fun
  | [d] => { results := [.lit (.bool true)], args := [d] }
  | _ => none }
def migrateUpRow : OpenClaim := { program := "ytimecccphbgdeaadoor", sum := "2fe82512862118de77eba48418ce7ec81d42937b5f491f007d4e12d9e35a4c7a", func := "library/librarylaw18.MigrateUp", spec := "migrateUp", inPlace := ["internal/bytealg.IndexByteString", "internal/bytealg.IndexString", "internal/bytealg.CountString", "internal/abi.NoEscape", "internal/bytealg.MakeNoZero"], unfollowed := true, recurses := true, named := ["unicode/utf8.first", "unicode/utf8.acceptRanges", "internal/bytealg.MaxLen"], apart := false, laid := [("unicode/utf8.acceptRanges", laid_unicode_utf8_acceptRanges), ("unicode/utf8.first", laid_unicode_utf8_first)] }
def MigrateUpSaid : Prop := migrateUpRow.holds Tryd.pinned (OpenSpec.ofChange migrateUpSpec)

/-- ITS FALSE NEIGHBOUR: 'it returns false'. Refute it at one input. -/
def migrateUpWrong : ChangeSpec := { name := "migrateUp", fn := fun _ => fun
  | [d] => { results := [.lit (.bool false)], args := [d] }
  | _ => none }
def MigrateUpWrongFalsely : Prop := migrateUpRow.holds Tryd.pinned (OpenSpec.ofChange migrateUpWrong)

/-- 'librarylaw18.MigrateDown': WHATEVER THE INPUT: true; the input reads as it did. -/
def migrateDownSpec : ChangeSpec := { name := "migrateDown", fn := fun _ => fun
  | [d] => { results := [.lit (.bool true)], args := [d] }
  | _ => none }
def migrateDownRow : OpenClaim := { program := "ytimecccphbgdeaadoor", sum := "2fe82512862118de77eba48418ce7ec81d42937b5f491f007d4e12d9e35a4c7a", func := "library/librarylaw18.MigrateDown", spec := "migrateDown", inPlace := ["internal/bytealg.IndexByteString", "internal/bytealg.IndexString", "internal/bytealg.CountString", "internal/abi.NoEscape", "internal/bytealg.MakeNoZero"], unfollowed := true, recurses := true, named := ["unicode/utf8.first", "unicode/utf8.acceptRanges", "internal/bytealg.MaxLen"], apart := false, laid := [("unicode/utf8.acceptRanges", laid_unicode_utf8_acceptRanges), ("unicode/utf8.first", laid_unicode_utf8_first)] }
def MigrateDownSaid : Prop := migrateDownRow.holds Tryd.pinned (OpenSpec.ofChange migrateDownSpec)

/-- ITS FALSE NEIGHBOUR: 'it returns false'. Refute it at one input. -/
def migrateDownWrong : ChangeSpec := { name := "migrateDown", fn := fun _ => fun
  | [d] => { results := [.lit (.bool false)], args := [d] }
  | _ => none }
def MigrateDownWrongFalsely : Prop := migrateDownRow.holds Tryd.pinned (OpenSpec.ofChange migrateDownWrong)

/-- 'librarylaw18.MigrateTo': WHATEVER THE INPUT: true; the input reads as it did. -/
def migrateToSpec : ChangeSpec := { name := "migrateTo", fn := fun _ => fun
  | [d1, d2] => { results := [.lit (.bool true)], args := [d1, d2] }
  | _ => none }
def migrateToRow : OpenClaim := { program := "ytimecccphbgdeaadoor", sum := "2fe82512862118de77eba48418ce7ec81d42937b5f491f007d4e12d9e35a4c7a", func := "library/librarylaw18.MigrateTo", spec := "migrateTo", inPlace := ["internal/bytealg.IndexByteString", "internal/bytealg.IndexString", "internal/bytealg.CountString", "internal/abi.NoEscape", "internal/bytealg.MakeNoZero"], unfollowed := true, recurses := true, named := ["unicode/utf8.first", "unicode/utf8.acceptRanges", "internal/bytealg.MaxLen"], apart := false, laid := [("unicode/utf8.acceptRanges", laid_unicode_utf8_acceptRanges), ("unicode/utf8.first", laid_unicode_utf8_first)] }
def MigrateToSaid : Prop := migrateToRow.holds Tryd.pinned (OpenSpec.ofChange migrateToSpec)

/-- ITS FALSE NEIGHBOUR: 'it returns false'. Refute it at one input. -/
def migrateToWrong : ChangeSpec := { name := "migrateTo", fn := fun _ => fun
  | [d1, d2] => { results := [.lit (.bool false)], args := [d1, d2] }
  | _ => none }
def MigrateToWrongFalsely : Prop := migrateToRow.holds Tryd.pinned (OpenSpec.ofChange migrateToWrong)

/-- 'librarylaw18.MigrateBack': WHATEVER THE INPUT: true; the input reads as it did. -/
def migrateBackSpec : ChangeSpec := { name := "migrateBack", fn := fun _ => fun
  | [d] => { results := [.lit (.bool true)], args := [d] }
  | _ => none }
def migrateBackRow : OpenClaim := { program := "ytimecccphbgdeaadoor", sum := "2fe82512862118de77eba48418ce7ec81d42937b5f491f007d4e12d9e35a4c7a", func := "library/librarylaw18.MigrateBack", spec := "migrateBack", inPlace := ["internal/bytealg.IndexByteString", "internal/bytealg.IndexString", "internal/bytealg.CountString", "internal/abi.NoEscape", "internal/bytealg.MakeNoZero"], unfollowed := true, recurses := true, named := ["unicode/utf8.first", "unicode/utf8.acceptRanges", "internal/bytealg.MaxLen"], apart := false, laid := [("unicode/utf8.acceptRanges", laid_unicode_utf8_acceptRanges), ("unicode/utf8.first", laid_unicode_utf8_first)] }
def MigrateBackSaid : Prop := migrateBackRow.holds Tryd.pinned (OpenSpec.ofChange migrateBackSpec)

/-- ITS FALSE NEIGHBOUR: 'it returns false'. Refute it at one input. -/
def migrateBackWrong : ChangeSpec := { name := "migrateBack", fn := fun _ => fun
  | [d] => { results := [.lit (.bool false)], args := [d] }
  | _ => none }
def MigrateBackWrongFalsely : Prop := migrateBackRow.holds Tryd.pinned (OpenSpec.ofChange migrateBackWrong)

/-- 'librarylaw18.MigrateAll': WHATEVER THE INPUT: true; the input reads as it did. -/
def migrateAllSpec : ChangeSpec := { name := "migrateAll", fn := fun _ => fun
  | [d1, d2] => { results := [.lit (.bool true)], args := [d1, d2] }
  | _ => none }
def migrateAllRow : OpenClaim := { program := "ytimecccphbgdeaadoor", sum := "2fe82512862118de77eba48418ce7ec81d42937b5f491f007d4e12d9e35a4c7a", func := "library/librarylaw18.MigrateAll", spec := "migrateAll", inPlace := ["internal/bytealg.IndexByteString", "internal/bytealg.IndexString", "internal/bytealg.CountString", "internal/abi.NoEscape", "internal/bytealg.MakeNoZero"], unfollowed := true, recurses := true, named := ["unicode/utf8.first", "unicode/utf8.acceptRanges", "internal/bytealg.MaxLen"], apart := false, laid := [("unicode/utf8.acceptRanges", laid_unicode_utf8_acceptRanges), ("unicode/utf8.first", laid_unicode_utf8_first)] }
def MigrateAllSaid : Prop := migrateAllRow.holds Tryd.pinned (OpenSpec.ofChange migrateAllSpec)

/-- ITS FALSE NEIGHBOUR: 'it returns false'. Refute it at one input. -/
def migrateAllWrong : ChangeSpec := { name := "migrateAll", fn := fun _ => fun
  | [d1, d2] => { results := [.lit (.bool false)], args := [d1, d2] }
  | _ => none }
def MigrateAllWrongFalsely : Prop := migrateAllRow.holds Tryd.pinned (OpenSpec.ofChange migrateAllWrong)

/- THE SECOND FORM. 'bulk': how many values and letters a reading holds, each counted each time it is reached (what is shared counts as often as it is met; a slice's spare places count too). A statement '..UptoSaid' is the law's where the arguments, and the package variables that the reading takes, are together of bulk at most 1048576: NARROWER than '..Said'. Prove '..Said' where nothing that the law and all that it calls make is longer than what came in: it says more and counts as full. Else prove '..UptoSaid'. A law counts once. -/
mutual
def uptoBulk {H : Type} : DataW H → Nat
  | .lit (.string bytes) => bytes.length + 1
  | .lit _ => 1
  | .nil => 1
  | .ptr d => uptoBulk d + 1
  | .slice elems spare => uptoBulkAll elems + uptoBulkAll spare + 1
  | .agg parts => uptoBulkAll parts + 1
  | .iface _ d => uptoBulk d + 1
  | .map entries => uptoBulkEntries entries + 1
  | .held _ => 1
def uptoBulkAll {H : Type} : List (DataW H) → Nat
  | [] => 0
  | d :: r => uptoBulk d + uptoBulkAll r
def uptoBulkEntries {H : Type} : List (Lit × DataW H) → Nat
  | [] => 0
  | x :: r => uptoBulkEntry x + uptoBulkEntries r
def uptoBulkEntry {H : Type} : Lit × DataW H → Nat
  | (.string bytes, d) => bytes.length + uptoBulk d + 1
  | (_, d) => uptoBulk d + 1
 end
def uptoSmall : (H : Type) → List (DataW H) → Bool := fun _ ds => decide (uptoBulkAll ds ≤ 1048576)
def OpenSpec.upto (s : _root_.Go.ChangeSpec) : _root_.Go.OpenSpec := { _root_.Go.OpenSpec.ofChange s with cond := some uptoSmall }

/-- 'librarylaw18.MigrateRight', WHERE WHAT IT READS IS OF BULK AT MOST 1048576: true; the input reads as it did. -/
def migrateRightUptoRow : OpenClaim := { program := "ytimecccphbgdeaadoor", sum := "2fe82512862118de77eba48418ce7ec81d42937b5f491f007d4e12d9e35a4c7a", func := "library/librarylaw18.MigrateRight", spec := "migrateRight", inPlace := ["internal/bytealg.IndexByteString", "internal/bytealg.IndexString", "internal/bytealg.CountString", "internal/abi.NoEscape", "internal/bytealg.MakeNoZero"], unfollowed := true, recurses := true, named := ["unicode/utf8.first", "unicode/utf8.acceptRanges", "internal/bytealg.MaxLen"], apart := false, laid := [("unicode/utf8.acceptRanges", laid_unicode_utf8_acceptRanges), ("unicode/utf8.first", laid_unicode_utf8_first)], narrowed := true }
def MigrateRightUptoSaid : Prop := migrateRightUptoRow.holds Tryd.pinned (OpenSpec.upto migrateRightSpec)

/-- 'librarylaw18.MigrateUp', WHERE WHAT IT READS IS OF BULK AT MOST 1048576: true; the input reads as it did. -/
def migrateUpUptoRow : OpenClaim := { program := "ytimecccphbgdeaadoor", sum := "2fe82512862118de77eba48418ce7ec81d42937b5f491f007d4e12d9e35a4c7a", func := "library/librarylaw18.MigrateUp", spec := "migrateUp", inPlace := ["internal/bytealg.IndexByteString", "internal/bytealg.IndexString", "internal/bytealg.CountString", "internal/abi.NoEscape", "internal/bytealg.MakeNoZero"], unfollowed := true, recurses := true, named := ["unicode/utf8.first", "unicode/utf8.acceptRanges", "internal/bytealg.MaxLen"], apart := false, laid := [("unicode/utf8.acceptRanges", laid_unicode_utf8_acceptRanges), ("unicode/utf8.first", laid_unicode_utf8_first)], narrowed := true }
def MigrateUpUptoSaid : Prop := migrateUpUptoRow.holds Tryd.pinned (OpenSpec.upto migrateUpSpec)

/-- 'librarylaw18.MigrateDown', WHERE WHAT IT READS IS OF BULK AT MOST 1048576: true; the input reads as it did. -/
def migrateDownUptoRow : OpenClaim := { program := "ytimecccphbgdeaadoor", sum := "2fe82512862118de77eba48418ce7ec81d42937b5f491f007d4e12d9e35a4c7a", func := "library/librarylaw18.MigrateDown", spec := "migrateDown", inPlace := ["internal/bytealg.IndexByteString", "internal/bytealg.IndexString", "internal/bytealg.CountString", "internal/abi.NoEscape", "internal/bytealg.MakeNoZero"], unfollowed := true, recurses := true, named := ["unicode/utf8.first", "unicode/utf8.acceptRanges", "internal/bytealg.MaxLen"], apart := false, laid := [("unicode/utf8.acceptRanges", laid_unicode_utf8_acceptRanges), ("unicode/utf8.first", laid_unicode_utf8_first)], narrowed := true }
def MigrateDownUptoSaid : Prop := migrateDownUptoRow.holds Tryd.pinned (OpenSpec.upto migrateDownSpec)

/-- 'librarylaw18.MigrateTo', WHERE WHAT IT READS IS OF BULK AT MOST 1048576: true; the input reads as it did. -/
def migrateToUptoRow : OpenClaim := { program := "ytimecccphbgdeaadoor", sum := "2fe82512862118de77eba48418ce7ec81d42937b5f491f007d4e12d9e35a4c7a", func := "library/librarylaw18.MigrateTo", spec := "migrateTo", inPlace := ["internal/bytealg.IndexByteString", "internal/bytealg.IndexString", "internal/bytealg.CountString", "internal/abi.NoEscape", "internal/bytealg.MakeNoZero"], unfollowed := true, recurses := true, named := ["unicode/utf8.first", "unicode/utf8.acceptRanges", "internal/bytealg.MaxLen"], apart := false, laid := [("unicode/utf8.acceptRanges", laid_unicode_utf8_acceptRanges), ("unicode/utf8.first", laid_unicode_utf8_first)], narrowed := true }
def MigrateToUptoSaid : Prop := migrateToUptoRow.holds Tryd.pinned (OpenSpec.upto migrateToSpec)

/-- 'librarylaw18.MigrateBack', WHERE WHAT IT READS IS OF BULK AT MOST 1048576: true; the input reads as it did. -/
def migrateBackUptoRow : OpenClaim := { program := "ytimecccphbgdeaadoor", sum := "2fe82512862118de77eba48418ce7ec81d42937b5f491f007d4e12d9e35a4c7a", func := "library/librarylaw18.MigrateBack", spec := "migrateBack", inPlace := ["internal/bytealg.IndexByteString", "internal/bytealg.IndexString", "internal/bytealg.CountString", "internal/abi.NoEscape", "internal/bytealg.MakeNoZero"], unfollowed := true, recurses := true, named := ["unicode/utf8.first", "unicode/utf8.acceptRanges", "internal/bytealg.MaxLen"], apart := false, laid := [("unicode/utf8.acceptRanges", laid_unicode_utf8_acceptRanges), ("unicode/utf8.first", laid_unicode_utf8_first)], narrowed := true }
def MigrateBackUptoSaid : Prop := migrateBackUptoRow.holds Tryd.pinned (OpenSpec.upto migrateBackSpec)

/-- 'librarylaw18.MigrateAll', WHERE WHAT IT READS IS OF BULK AT MOST 1048576: true; the input reads as it did. -/
def migrateAllUptoRow : OpenClaim := { program := "ytimecccphbgdeaadoor", sum := "2fe82512862118de77eba48418ce7ec81d42937b5f491f007d4e12d9e35a4c7a", func := "library/librarylaw18.MigrateAll", spec := "migrateAll", inPlace := ["internal/bytealg.IndexByteString", "internal/bytealg.IndexString", "internal/bytealg.CountString", "internal/abi.NoEscape", "internal/bytealg.MakeNoZero"], unfollowed := true, recurses := true, named := ["unicode/utf8.first", "unicode/utf8.acceptRanges", "internal/bytealg.MaxLen"], apart := false, laid := [("unicode/utf8.acceptRanges", laid_unicode_utf8_acceptRanges), ("unicode/utf8.first", laid_unicode_utf8_first)], narrowed := true }
def MigrateAllUptoSaid : Prop := migrateAllUptoRow.holds Tryd.pinned (OpenSpec.upto migrateAllSpec)

end Rows
end Go.Proofs.YtimecccphbgdeaaDoor
