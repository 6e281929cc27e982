/-
  NARROWER THAN 'FOR EVERY INPUT', by the rows' own cells (each row's printed sentence says how): EmailReads: laid · SinkReads: laid · SinkBuilds: laid · SinkShapes: laid.
  DERIVED. THE GIVEN ROWS OF THIS SEAT. 4 by the template 'for every input the law returns true; each argument reads behind the call as it read before'; 0 by the template 'total and deterministic' (their statements: YtglaihdcndcmkaaGreatDoorTotals.lean).
  GIVEN WITH THE SEED: the statements are not yours to turn. If you find one false, say at which input.
  Laid BY PROGRAM, IN A SANDBOX (cutbox-rows.mjs): the forced cells as the released guide's own fill.sh prints them over the translation ef521c70853f9c4e… (all of the seat's roots in one cut). By AI agents, Wed Nov 11 2026. No macro, syntax, notation, axiom, sorry.
-/
import Derived.Test.YtglaihdcndcmkaaGreatDoorChecked
import GoSem.PinnedTables
import GoSem.Claim
import GoSem.ClaimJoined
import GoSem.ClaimMapViews
import Derived.JoinedTies
import Derived.KernelRfl
namespace Go.Proofs.YtglaihdcndcmkaaGreatDoor
/- THE CELL 'sum', in the pinned program and in every row, IS THE sha256 OF THE DUMP (.gsa) THAT YtglaihdcndcmkaaGreatDoorProg.lean LOADS. Nothing in Lean hashes anything: it is a label: what it is worth is what the hold of that sum in a sandbox is worth. -/
noncomputable def Tryz.pinned : Pinned := { name := "ytglaihdcndcmkaagreatdoor", sum := "ef521c70853f9c4e91f75ae3efd204cc9cfefb010d9712823cc46f9d9c733373", checked := Tryz.checked }
namespace Rows
def none {H : Type} : Left H := { results := [], args := [] }

/- WHAT THE LISTED PACKAGE-LEVEL VARIABLES READ AS WHEN THE CALL BEGINS. Each datum BY PROGRAM (the guide's laid-datum.mjs) off the statement by which the dump's own 'gosem.cut.vars' lays the variable. In a bare row this is a premise. The card (YtglaihdcndcmkaaGreatDoorCards.lean) ties it to the program's text. -/
def laid_unicode_utf8_acceptRanges {H : Type} : DataW H := .agg [.agg [.lit (.int .u8 128), .lit (.int .u8 191)], .agg [.lit (.int .u8 160), .lit (.int .u8 191)], .agg [.lit (.int .u8 128), .lit (.int .u8 159)], .agg [.lit (.int .u8 144), .lit (.int .u8 191)], .agg [.lit (.int .u8 128), .lit (.int .u8 143)], .agg [.lit (.int .u8 0), .lit (.int .u8 0)], .agg [.lit (.int .u8 0), .lit (.int .u8 0)], .agg [.lit (.int .u8 0), .lit (.int .u8 0)], .agg [.lit (.int .u8 0), .lit (.int .u8 0)], .agg [.lit (.int .u8 0), .lit (.int .u8 0)], .agg [.lit (.int .u8 0), .lit (.int .u8 0)], .agg [.lit (.int .u8 0), .lit (.int .u8 0)], .agg [.lit (.int .u8 0), .lit (.int .u8 0)], .agg [.lit (.int .u8 0), .lit (.int .u8 0)], .agg [.lit (.int .u8 0), .lit (.int .u8 0)], .agg [.lit (.int .u8 0), .lit (.int .u8 0)]]
def laid_nuncio_b64_table {H : Type} : DataW H := .agg [.lit (.string [65, 66, 67, 68, 69, 70, 71, 72, 73, 74, 75, 76, 77, 78, 79, 80]), .lit (.string [81, 82, 83, 84, 85, 86, 87, 88, 89, 90, 97, 98, 99, 100, 101, 102]), .lit (.string [103, 104, 105, 106, 107, 108, 109, 110, 111, 112, 113, 114, 115, 116, 117, 118]), .lit (.string [119, 120, 121, 122, 48, 49, 50, 51, 52, 53, 54, 55, 56, 57, 43, 47])]
/-- One of Go's own tables, pinned by name: the form's constant. -/
def laid_unicode_utf8_first : DataW Unit := Go.Pinned.utf8First

/-- 'nunciolaw36.EmailReads': WHATEVER THE INPUT: true; the input reads as it did. -/
def emailReadsSpec : ChangeSpec := { name := "emailReads", fn := fun _ => fun
  | [d] => { results := [.lit (.bool true)], args := [d] }
  | _ => none }
def emailReadsRow : OpenClaim := { program := "ytglaihdcndcmkaagreatdoor", sum := "ef521c70853f9c4e91f75ae3efd204cc9cfefb010d9712823cc46f9d9c733373", func := "nuncio/nunciolaw36.EmailReads", spec := "emailReads", inPlace := ["internal/bytealg.IndexByteString", "internal/bytealg.IndexString", "internal/bytealg.CountString", "internal/abi.NoEscape", "internal/bytealg.MakeNoZero"], unfollowed := true, recurses := true, named := ["internal/bytealg.MaxLen", "unicode/utf8.first", "unicode/utf8.acceptRanges", "nuncio/b64.table"], apart := false, laid := [("unicode/utf8.acceptRanges", laid_unicode_utf8_acceptRanges), ("nuncio/b64.table", laid_nuncio_b64_table), ("unicode/utf8.first", laid_unicode_utf8_first)] }
def EmailReadsSaid : Prop := emailReadsRow.holds Tryz.pinned (OpenSpec.ofChange emailReadsSpec)

/-- ITS FALSE NEIGHBOUR: 'it returns false'. Refute it at one input. -/
def emailReadsWrong : ChangeSpec := { name := "emailReads", fn := fun _ => fun
  | [d] => { results := [.lit (.bool false)], args := [d] }
  | _ => none }
def EmailReadsWrongFalsely : Prop := emailReadsRow.holds Tryz.pinned (OpenSpec.ofChange emailReadsWrong)

/-- 'nunciolaw39.SinkReads': WHATEVER THE INPUT: true; the input reads as it did. -/
def sinkReadsSpec : ChangeSpec := { name := "sinkReads", fn := fun _ => fun
  | [d1, d2] => { results := [.lit (.bool true)], args := [d1, d2] }
  | _ => none }
def sinkReadsRow : OpenClaim := { program := "ytglaihdcndcmkaagreatdoor", sum := "ef521c70853f9c4e91f75ae3efd204cc9cfefb010d9712823cc46f9d9c733373", func := "nuncio/nunciolaw39.SinkReads", spec := "sinkReads", inPlace := ["internal/bytealg.IndexByteString", "internal/bytealg.IndexString", "internal/bytealg.CountString", "internal/abi.NoEscape", "internal/bytealg.MakeNoZero"], unfollowed := true, recurses := true, named := ["internal/bytealg.MaxLen", "unicode/utf8.first", "unicode/utf8.acceptRanges", "nuncio/b64.table"], apart := false, laid := [("unicode/utf8.acceptRanges", laid_unicode_utf8_acceptRanges), ("nuncio/b64.table", laid_nuncio_b64_table), ("unicode/utf8.first", laid_unicode_utf8_first)] }
def SinkReadsSaid : Prop := sinkReadsRow.holds Tryz.pinned (OpenSpec.ofChange sinkReadsSpec)

/-- ITS FALSE NEIGHBOUR: 'it returns false'. Refute it at one input. -/
def sinkReadsWrong : ChangeSpec := { name := "sinkReads", fn := fun _ => fun
  | [d1, d2] => { results := [.lit (.bool false)], args := [d1, d2] }
  | _ => none }
def SinkReadsWrongFalsely : Prop := sinkReadsRow.holds Tryz.pinned (OpenSpec.ofChange sinkReadsWrong)

/-- 'nunciolaw39.SinkBuilds': WHATEVER THE INPUT: true; the input reads as it did. -/
def sinkBuildsSpec : ChangeSpec := { name := "sinkBuilds", fn := fun _ => fun
  | [d1, d2, d3] => { results := [.lit (.bool true)], args := [d1, d2, d3] }
  | _ => none }
def sinkBuildsRow : OpenClaim := { program := "ytglaihdcndcmkaagreatdoor", sum := "ef521c70853f9c4e91f75ae3efd204cc9cfefb010d9712823cc46f9d9c733373", func := "nuncio/nunciolaw39.SinkBuilds", spec := "sinkBuilds", inPlace := ["internal/bytealg.IndexByteString", "internal/bytealg.IndexString", "internal/bytealg.CountString", "internal/abi.NoEscape", "internal/bytealg.MakeNoZero"], unfollowed := true, recurses := true, named := ["internal/bytealg.MaxLen", "unicode/utf8.first", "unicode/utf8.acceptRanges", "nuncio/b64.table"], apart := false, laid := [("unicode/utf8.acceptRanges", laid_unicode_utf8_acceptRanges), ("nuncio/b64.table", laid_nuncio_b64_table), ("unicode/utf8.first", laid_unicode_utf8_first)] }
def SinkBuildsSaid : Prop := sinkBuildsRow.holds Tryz.pinned (OpenSpec.ofChange sinkBuildsSpec)

/-- ITS FALSE NEIGHBOUR: 'it returns false'. Refute it at one input. -/
def sinkBuildsWrong : ChangeSpec := { name := "sinkBuilds", fn := fun _ => fun
  | [d1, d2, d3] => { results := [.lit (.bool false)], args := [d1, d2, d3] }
  | _ => none }
def SinkBuildsWrongFalsely : Prop := sinkBuildsRow.holds Tryz.pinned (OpenSpec.ofChange sinkBuildsWrong)

/-- 'nunciolaw39.SinkShapes': WHATEVER THE INPUT: true; the input reads as it did. -/
def sinkShapesSpec : ChangeSpec := { name := "sinkShapes", fn := fun _ => fun
  | [d1, d2, d3, d4, d5] => { results := [.lit (.bool true)], args := [d1, d2, d3, d4, d5] }
  | _ => none }
def sinkShapesRow : OpenClaim := { program := "ytglaihdcndcmkaagreatdoor", sum := "ef521c70853f9c4e91f75ae3efd204cc9cfefb010d9712823cc46f9d9c733373", func := "nuncio/nunciolaw39.SinkShapes", spec := "sinkShapes", inPlace := ["internal/bytealg.IndexByteString", "internal/bytealg.IndexString", "internal/bytealg.CountString", "internal/abi.NoEscape", "internal/bytealg.MakeNoZero"], unfollowed := true, recurses := true, named := ["internal/bytealg.MaxLen", "unicode/utf8.first", "unicode/utf8.acceptRanges", "nuncio/b64.table"], apart := false, laid := [("unicode/utf8.acceptRanges", laid_unicode_utf8_acceptRanges), ("nuncio/b64.table", laid_nuncio_b64_table), ("unicode/utf8.first", laid_unicode_utf8_first)] }
def SinkShapesSaid : Prop := sinkShapesRow.holds Tryz.pinned (OpenSpec.ofChange sinkShapesSpec)

/-- ITS FALSE NEIGHBOUR: 'it returns false'. Refute it at one input. -/
def sinkShapesWrong : ChangeSpec := { name := "sinkShapes", fn := fun _ => fun
  | [d1, d2, d3, d4, d5] => { results := [.lit (.bool false)], args := [d1, d2, d3, d4, d5] }
  | _ => none }
def SinkShapesWrongFalsely : Prop := sinkShapesRow.holds Tryz.pinned (OpenSpec.ofChange sinkShapesWrong)

/- THE SECOND FORM. 'bulk': how many values and letters a reading holds, each counted each time it is reached (what is shared counts as often as it is met; a slice's spare places count too). A statement '..UptoSaid' is the law's where the arguments, and the package variables that the reading takes, are together of bulk at most 1048576: NARROWER than '..Said'. Prove '..Said' where nothing that the law and all that it calls make is longer than what came in: it says more and counts as full. Else prove '..UptoSaid'. A law counts once. -/
mutual
def uptoBulk {H : Type} : DataW H → Nat
  | .lit (.string bytes) => bytes.length + 1
  | .lit _ => 1
  | .nil => 1
  | .ptr d => uptoBulk d + 1
  | .slice elems spare => uptoBulkAll elems + uptoBulkAll spare + 1
  | .agg parts => uptoBulkAll parts + 1
  | .iface _ d => uptoBulk d + 1
  | .map entries => uptoBulkEntries entries + 1
  | .held _ => 1
def uptoBulkAll {H : Type} : List (DataW H) → Nat
  | [] => 0
  | d :: r => uptoBulk d + uptoBulkAll r
def uptoBulkEntries {H : Type} : List (Lit × DataW H) → Nat
  | [] => 0
  | x :: r => uptoBulkEntry x + uptoBulkEntries r
def uptoBulkEntry {H : Type} : Lit × DataW H → Nat
  | (.string bytes, d) => bytes.length + uptoBulk d + 1
  | (_, d) => uptoBulk d + 1
 end
def uptoSmall : (H : Type) → List (DataW H) → Bool := fun _ ds => decide (uptoBulkAll ds ≤ 1048576)
def OpenSpec.upto (s : _root_.Go.ChangeSpec) : _root_.Go.OpenSpec := { _root_.Go.OpenSpec.ofChange s with cond := some uptoSmall }

/-- 'nunciolaw36.EmailReads', WHERE WHAT IT READS IS OF BULK AT MOST 1048576: true; the input reads as it did. -/
def emailReadsUptoRow : OpenClaim := { program := "ytglaihdcndcmkaagreatdoor", sum := "ef521c70853f9c4e91f75ae3efd204cc9cfefb010d9712823cc46f9d9c733373", func := "nuncio/nunciolaw36.EmailReads", spec := "emailReads", inPlace := ["internal/bytealg.IndexByteString", "internal/bytealg.IndexString", "internal/bytealg.CountString", "internal/abi.NoEscape", "internal/bytealg.MakeNoZero"], unfollowed := true, recurses := true, named := ["internal/bytealg.MaxLen", "unicode/utf8.first", "unicode/utf8.acceptRanges", "nuncio/b64.table"], apart := false, laid := [("unicode/utf8.acceptRanges", laid_unicode_utf8_acceptRanges), ("nuncio/b64.table", laid_nuncio_b64_table), ("unicode/utf8.first", laid_unicode_utf8_first)], narrowed := true }
def EmailReadsUptoSaid : Prop := emailReadsUptoRow.holds Tryz.pinned (OpenSpec.upto emailReadsSpec)

/-- 'nunciolaw39.SinkReads', WHERE WHAT IT READS IS OF BULK AT MOST 1048576: true; the input reads as it did. -/
def sinkReadsUptoRow : OpenClaim := { program := "ytglaihdcndcmkaagreatdoor", sum := "ef521c70853f9c4e91f75ae3efd204cc9cfefb010d9712823cc46f9d9c733373", func := "nuncio/nunciolaw39.SinkReads", spec := "sinkReads", inPlace := ["internal/bytealg.IndexByteString", "internal/bytealg.IndexString", "internal/bytealg.CountString", "internal/abi.NoEscape", "internal/bytealg.MakeNoZero"], unfollowed := true, recurses := true, named := ["internal/bytealg.MaxLen", "unicode/utf8.first", "unicode/utf8.acceptRanges", "nuncio/b64.table"], apart := false, laid := [("unicode/utf8.acceptRanges", laid_unicode_utf8_acceptRanges), ("nuncio/b64.table", laid_nuncio_b64_table), ("unicode/utf8.first", laid_unicode_utf8_first)], narrowed := true }
def SinkReadsUptoSaid : Prop := sinkReadsUptoRow.holds Tryz.pinned (OpenSpec.upto sinkReadsSpec)

/-- 'nunciolaw39.SinkBuilds', WHERE WHAT IT READS IS OF BULK AT MOST 1048576: true; the input reads as it did. -/
def sinkBuildsUptoRow : OpenClaim := { program := "ytglaihdcndcmkaagreatdoor", sum := "ef521c70853f9c4e91f75ae3efd204cc9cfefb010d9712823cc46f9d9c733373", func := "nuncio/nunciolaw39.SinkBuilds", spec := "sinkBuilds", inPlace := ["internal/bytealg.IndexByteString", "internal/bytealg.IndexString", "internal/bytealg.CountString", "internal/abi.NoEscape", "internal/bytealg.MakeNoZero"], unfollowed := true, recurses := true, named := ["internal/bytealg.MaxLen", "unicode/utf8.first", "unicode/utf8.acceptRanges", "nuncio/b64.table"], apart := false, laid := [("unicode/utf8.acceptRanges", laid_unicode_utf8_acceptRanges), ("nuncio/b64.table", laid_nuncio_b64_table), ("unicode/utf8.first", laid_unicode_utf8_first)], narrowed := true }
def SinkBuildsUptoSaid : Prop := sinkBuildsUptoRow.holds Tryz.pinned (OpenSpec.upto sinkBuildsSpec)

/-- 'nunciolaw39.SinkShapes', WHERE WHAT IT READS IS OF BULK AT MOST 1048576: true; the input reads as it did. -/
def sinkShapesUptoRow : OpenClaim := { program := "ytglaihdcndcmkaagreatdoor", sum := "ef521c70853f9c4e91f75ae3efd204cc9cfefb010d9712823cc46f9d9c733373", func := "nuncio/nunciolaw39.SinkShapes", spec := "sinkShapes", inPlace := ["internal/bytealg.IndexByteString", "internal/bytealg.IndexString", "internal/bytealg.CountString", "internal/abi.NoEscape", "internal/bytealg.MakeNoZero"], unfollowed := true, recurses := true, named := ["internal/bytealg.MaxLen", "unicode/utf8.first", "unicode/utf8.acceptRanges", "nuncio/b64.table"], apart := false, laid := [("unicode/utf8.acceptRanges", laid_unicode_utf8_acceptRanges), ("nuncio/b64.table", laid_nuncio_b64_table), ("unicode/utf8.first", laid_unicode_utf8_first)], narrowed := true }
def SinkShapesUptoSaid : Prop := sinkShapesUptoRow.holds Tryz.pinned (OpenSpec.upto sinkShapesSpec)

end Rows
end Go.Proofs.YtglaihdcndcmkaaGreatDoor
