/-
  NARROWER THAN 'FOR EVERY INPUT', by the rows' own cells (each row's printed sentence says how): BaseCodes: laid · BaseWraps: laid · BaseInners: laid · BaseMails: laid.
  DERIVED. THE GIVEN ROWS OF THIS SEAT. 4 by the template 'for every input the law returns true; each argument reads behind the call as it read before'; 0 by the template 'total and deterministic' (their statements: YtbkhgmehfgfmfaaDoorTotals.lean).
  GIVEN WITH THE SEED: the statements are not yours to turn. If you find one false, say at which input.
  Laid BY PROGRAM, IN A SANDBOX (cutbox-rows.mjs): the forced cells as the released guide's own fill.sh prints them over the translation 518614878047ca7f… (all of the seat's roots in one cut). By AI agents, Wed Nov 11 2026. No macro, syntax, notation, axiom, sorry.
-/
import Derived.Test.YtbkhgmehfgfmfaaDoorChecked
import GoSem.Claim
import GoSem.ClaimJoined
import GoSem.ClaimMapViews
import Derived.JoinedTies
import Derived.KernelRfl
namespace Go.Proofs.YtbkhgmehfgfmfaaDoor
/- THE CELL 'sum', in the pinned program and in every row, IS THE sha256 OF THE DUMP (.gsa) THAT YtbkhgmehfgfmfaaDoorProg.lean LOADS. Nothing in Lean hashes anything: it is a label: what it is worth is what the hold of that sum in a sandbox is worth. -/
noncomputable def Tryd.pinned : Pinned := { name := "ytbkhgmehfgfmfaadoor", sum := "518614878047ca7f351d28bd1744dc45b878ec74233f36209f9cddd8bd45f626", checked := Tryd.checked }
namespace Rows
def none {H : Type} : Left H := { results := [], args := [] }

/- WHAT THE LISTED PACKAGE-LEVEL VARIABLES READ AS WHEN THE CALL BEGINS. Each datum BY PROGRAM (the guide's laid-datum.mjs) off the statement by which the dump's own 'gosem.cut.vars' lays the variable. In a bare row this is a premise. The card (YtbkhgmehfgfmfaaDoorCards.lean) ties it to the program's text. -/
def laid_nuncio_b64_table {H : Type} : DataW H := .agg [.lit (.string [65, 66, 67, 68, 69, 70, 71, 72, 73, 74, 75, 76, 77, 78, 79, 80]), .lit (.string [81, 82, 83, 84, 85, 86, 87, 88, 89, 90, 97, 98, 99, 100, 101, 102]), .lit (.string [103, 104, 105, 106, 107, 108, 109, 110, 111, 112, 113, 114, 115, 116, 117, 118]), .lit (.string [119, 120, 121, 122, 48, 49, 50, 51, 52, 53, 54, 55, 56, 57, 43, 47])]

/-- 'nunciolaw04.BaseCodes': WHATEVER THE INPUT: true; the input reads as it did. -/
def baseCodesSpec : ChangeSpec := { name := "baseCodes", fn := fun _ => fun
  | [d1, d2] => { results := [.lit (.bool true)], args := [d1, d2] }
  | _ => none }
def baseCodesRow : OpenClaim := { program := "ytbkhgmehfgfmfaadoor", sum := "518614878047ca7f351d28bd1744dc45b878ec74233f36209f9cddd8bd45f626", func := "nuncio/nunciolaw04.BaseCodes", spec := "baseCodes", inPlace := ["internal/abi.NoEscape", "internal/bytealg.MakeNoZero"], named := ["nuncio/b64.table"], apart := false, laid := [("nuncio/b64.table", laid_nuncio_b64_table)] }
def BaseCodesSaid : Prop := baseCodesRow.holds Tryd.pinned (OpenSpec.ofChange baseCodesSpec)

/-- ITS FALSE NEIGHBOUR: 'it returns false'. Refute it at one input. -/
def baseCodesWrong : ChangeSpec := { name := "baseCodes", fn := fun _ => fun
  | [d1, d2] => { results := [.lit (.bool false)], args := [d1, d2] }
  | _ => none }
def BaseCodesWrongFalsely : Prop := baseCodesRow.holds Tryd.pinned (OpenSpec.ofChange baseCodesWrong)

/-- 'nunciolaw04.BaseWraps': WHATEVER THE INPUT: true; the input reads as it did. -/
def baseWrapsSpec : ChangeSpec := { name := "baseWraps", fn := fun _ => fun
  | [d1, d2] => { results := [.lit (.bool true)], args := [d1, d2] }
  | _ => none }
def baseWrapsRow : OpenClaim := { program := "ytbkhgmehfgfmfaadoor", sum := "518614878047ca7f351d28bd1744dc45b878ec74233f36209f9cddd8bd45f626", func := "nuncio/nunciolaw04.BaseWraps", spec := "baseWraps", inPlace := ["internal/abi.NoEscape", "internal/bytealg.MakeNoZero"], named := ["nuncio/b64.table"], apart := false, laid := [("nuncio/b64.table", laid_nuncio_b64_table)] }
def BaseWrapsSaid : Prop := baseWrapsRow.holds Tryd.pinned (OpenSpec.ofChange baseWrapsSpec)

/-- ITS FALSE NEIGHBOUR: 'it returns false'. Refute it at one input. -/
def baseWrapsWrong : ChangeSpec := { name := "baseWraps", fn := fun _ => fun
  | [d1, d2] => { results := [.lit (.bool false)], args := [d1, d2] }
  | _ => none }
def BaseWrapsWrongFalsely : Prop := baseWrapsRow.holds Tryd.pinned (OpenSpec.ofChange baseWrapsWrong)

/-- 'nunciolaw04.BaseInners': WHATEVER THE INPUT: true; the input reads as it did. -/
def baseInnersSpec : ChangeSpec := { name := "baseInners", fn := fun _ => fun
  | [d1, d2, d3, d4] => { results := [.lit (.bool true)], args := [d1, d2, d3, d4] }
  | _ => none }
def baseInnersRow : OpenClaim := { program := "ytbkhgmehfgfmfaadoor", sum := "518614878047ca7f351d28bd1744dc45b878ec74233f36209f9cddd8bd45f626", func := "nuncio/nunciolaw04.BaseInners", spec := "baseInners", inPlace := ["internal/abi.NoEscape", "internal/bytealg.MakeNoZero"], named := ["nuncio/b64.table"], apart := false, laid := [("nuncio/b64.table", laid_nuncio_b64_table)] }
def BaseInnersSaid : Prop := baseInnersRow.holds Tryd.pinned (OpenSpec.ofChange baseInnersSpec)

/-- ITS FALSE NEIGHBOUR: 'it returns false'. Refute it at one input. -/
def baseInnersWrong : ChangeSpec := { name := "baseInners", fn := fun _ => fun
  | [d1, d2, d3, d4] => { results := [.lit (.bool false)], args := [d1, d2, d3, d4] }
  | _ => none }
def BaseInnersWrongFalsely : Prop := baseInnersRow.holds Tryd.pinned (OpenSpec.ofChange baseInnersWrong)

/-- 'nunciolaw04.BaseMails': WHATEVER THE INPUT: true; the input reads as it did. -/
def baseMailsSpec : ChangeSpec := { name := "baseMails", fn := fun _ => fun
  | [d1, d2] => { results := [.lit (.bool true)], args := [d1, d2] }
  | _ => none }
def baseMailsRow : OpenClaim := { program := "ytbkhgmehfgfmfaadoor", sum := "518614878047ca7f351d28bd1744dc45b878ec74233f36209f9cddd8bd45f626", func := "nuncio/nunciolaw04.BaseMails", spec := "baseMails", inPlace := ["internal/abi.NoEscape", "internal/bytealg.MakeNoZero"], named := ["nuncio/b64.table"], apart := false, laid := [("nuncio/b64.table", laid_nuncio_b64_table)] }
def BaseMailsSaid : Prop := baseMailsRow.holds Tryd.pinned (OpenSpec.ofChange baseMailsSpec)

/-- ITS FALSE NEIGHBOUR: 'it returns false'. Refute it at one input. -/
def baseMailsWrong : ChangeSpec := { name := "baseMails", fn := fun _ => fun
  | [d1, d2] => { results := [.lit (.bool false)], args := [d1, d2] }
  | _ => none }
def BaseMailsWrongFalsely : Prop := baseMailsRow.holds Tryd.pinned (OpenSpec.ofChange baseMailsWrong)

/- THE SECOND FORM. 'bulk': how many values and letters a reading holds, each counted each time it is reached (what is shared counts as often as it is met; a slice's spare places count too). A statement '..UptoSaid' is the law's where the arguments, and the package variables that the reading takes, are together of bulk at most 1048576: NARROWER than '..Said'. Prove '..Said' where nothing that the law and all that it calls make is longer than what came in: it says more and counts as full. Else prove '..UptoSaid'. A law counts once. -/
mutual
def uptoBulk {H : Type} : DataW H → Nat
  | .lit (.string bytes) => bytes.length + 1
  | .lit _ => 1
  | .nil => 1
  | .ptr d => uptoBulk d + 1
  | .slice elems spare => uptoBulkAll elems + uptoBulkAll spare + 1
  | .agg parts => uptoBulkAll parts + 1
  | .iface _ d => uptoBulk d + 1
  | .map entries => uptoBulkEntries entries + 1
  | .held _ => 1
def uptoBulkAll {H : Type} : List (DataW H) → Nat
  | [] => 0
  | d :: r => uptoBulk d + uptoBulkAll r
def uptoBulkEntries {H : Type} : List (Lit × DataW H) → Nat
  | [] => 0
  | x :: r => uptoBulkEntry x + uptoBulkEntries r
def uptoBulkEntry {H : Type} : Lit × DataW H → Nat
  | (.string bytes, d) => bytes.length + uptoBulk d + 1
  | (_, d) => uptoBulk d + 1
 end
def uptoSmall : (H : Type) → List (DataW H) → Bool := fun _ ds => decide (uptoBulkAll ds ≤ 1048576)
def OpenSpec.upto (s : _root_.Go.ChangeSpec) : _root_.Go.OpenSpec := { _root_.Go.OpenSpec.ofChange s with cond := some uptoSmall }

/-- 'nunciolaw04.BaseCodes', WHERE WHAT IT READS IS OF BULK AT MOST 1048576: true; the input reads as it did. -/
def baseCodesUptoRow : OpenClaim := { program := "ytbkhgmehfgfmfaadoor", sum := "518614878047ca7f351d28bd1744dc45b878ec74233f36209f9cddd8bd45f626", func := "nuncio/nunciolaw04.BaseCodes", spec := "baseCodes", inPlace := ["internal/abi.NoEscape", "internal/bytealg.MakeNoZero"], named := ["nuncio/b64.table"], apart := false, laid := [("nuncio/b64.table", laid_nuncio_b64_table)], narrowed := true }
def BaseCodesUptoSaid : Prop := baseCodesUptoRow.holds Tryd.pinned (OpenSpec.upto baseCodesSpec)

/-- 'nunciolaw04.BaseWraps', WHERE WHAT IT READS IS OF BULK AT MOST 1048576: true; the input reads as it did. -/
def baseWrapsUptoRow : OpenClaim := { program := "ytbkhgmehfgfmfaadoor", sum := "518614878047ca7f351d28bd1744dc45b878ec74233f36209f9cddd8bd45f626", func := "nuncio/nunciolaw04.BaseWraps", spec := "baseWraps", inPlace := ["internal/abi.NoEscape", "internal/bytealg.MakeNoZero"], named := ["nuncio/b64.table"], apart := false, laid := [("nuncio/b64.table", laid_nuncio_b64_table)], narrowed := true }
def BaseWrapsUptoSaid : Prop := baseWrapsUptoRow.holds Tryd.pinned (OpenSpec.upto baseWrapsSpec)

/-- 'nunciolaw04.BaseInners', WHERE WHAT IT READS IS OF BULK AT MOST 1048576: true; the input reads as it did. -/
def baseInnersUptoRow : OpenClaim := { program := "ytbkhgmehfgfmfaadoor", sum := "518614878047ca7f351d28bd1744dc45b878ec74233f36209f9cddd8bd45f626", func := "nuncio/nunciolaw04.BaseInners", spec := "baseInners", inPlace := ["internal/abi.NoEscape", "internal/bytealg.MakeNoZero"], named := ["nuncio/b64.table"], apart := false, laid := [("nuncio/b64.table", laid_nuncio_b64_table)], narrowed := true }
def BaseInnersUptoSaid : Prop := baseInnersUptoRow.holds Tryd.pinned (OpenSpec.upto baseInnersSpec)

/-- 'nunciolaw04.BaseMails', WHERE WHAT IT READS IS OF BULK AT MOST 1048576: true; the input reads as it did. -/
def baseMailsUptoRow : OpenClaim := { program := "ytbkhgmehfgfmfaadoor", sum := "518614878047ca7f351d28bd1744dc45b878ec74233f36209f9cddd8bd45f626", func := "nuncio/nunciolaw04.BaseMails", spec := "baseMails", inPlace := ["internal/abi.NoEscape", "internal/bytealg.MakeNoZero"], named := ["nuncio/b64.table"], apart := false, laid := [("nuncio/b64.table", laid_nuncio_b64_table)], narrowed := true }
def BaseMailsUptoSaid : Prop := baseMailsUptoRow.holds Tryd.pinned (OpenSpec.upto baseMailsSpec)

end Rows
end Go.Proofs.YtbkhgmehfgfmfaaDoor
