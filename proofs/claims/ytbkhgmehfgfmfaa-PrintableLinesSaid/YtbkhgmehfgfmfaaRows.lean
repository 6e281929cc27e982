/-
  No cell of these rows narrows 'for every input' (looked for: loops, veiled, ifaces, maps, wideKeys, modest, calm, conditions, laid).
  DERIVED. THE GIVEN ROWS OF THIS SEAT. 6 by the template 'for every input the law returns true; each argument reads behind the call as it read before'; 0 by the template 'total and deterministic' (their statements: YtbkhgmehfgfmfaaTotals.lean).
  GIVEN WITH THE SEED: the statements are not yours to turn. If you find one false, say at which input.
  Laid BY PROGRAM, IN A SANDBOX (cutbox-rows.mjs): the forced cells as the released guide's own fill.sh prints them over the translation c31cd8aa1c60e6bb… (all of the seat's roots in one cut). By AI agents, Wed Nov 11 2026. No macro, syntax, notation, axiom, sorry.
-/
import Derived.Test.YtbkhgmehfgfmfaaChecked
import GoSem.Claim
import GoSem.ClaimJoined
import GoSem.ClaimMapViews
import Derived.JoinedTies
import Derived.KernelRfl
namespace Go.Proofs.Ytbkhgmehfgfmfaa
/- THE CELL 'sum', in the pinned program and in every row, IS THE sha256 OF THE DUMP (.gsa) THAT YtbkhgmehfgfmfaaProg.lean LOADS. Nothing in Lean hashes anything: it is a label: what it is worth is what the hold of that sum in a sandbox is worth. -/
noncomputable def Try.pinned : Pinned := { name := "ytbkhgmehfgfmfaa", sum := "c31cd8aa1c60e6bb8ce4a463e66e05aaeb6a81085f3824bce95c8ff74e22d595", checked := Try.checked }
namespace Rows
def none {H : Type} : Left H := { results := [], args := [] }

/-- 'nunciolaw08.PercentWrites': WHATEVER THE INPUT: true; the input reads as it did. -/
def percentWritesSpec : ChangeSpec := { name := "percentWrites", fn := fun _ => fun
  | [d1, d2] => { results := [.lit (.bool true)], args := [d1, d2] }
  | _ => none }
def percentWritesRow : OpenClaim := { program := "ytbkhgmehfgfmfaa", sum := "c31cd8aa1c60e6bb8ce4a463e66e05aaeb6a81085f3824bce95c8ff74e22d595", func := "nuncio/nunciolaw08.PercentWrites", spec := "percentWrites", inPlace := ["internal/abi.NoEscape", "internal/bytealg.IndexByteString"], unfollowed := true, recurses := true, apart := false }
def PercentWritesSaid : Prop := percentWritesRow.holds Try.pinned (OpenSpec.ofChange percentWritesSpec)

/-- ITS FALSE NEIGHBOUR: 'it returns false'. Refute it at one input. -/
def percentWritesWrong : ChangeSpec := { name := "percentWrites", fn := fun _ => fun
  | [d1, d2] => { results := [.lit (.bool false)], args := [d1, d2] }
  | _ => none }
def PercentWritesWrongFalsely : Prop := percentWritesRow.holds Try.pinned (OpenSpec.ofChange percentWritesWrong)

/-- 'nunciolaw08.PercentReads': WHATEVER THE INPUT: true; the input reads as it did. -/
def percentReadsSpec : ChangeSpec := { name := "percentReads", fn := fun _ => fun
  | [d1, d2] => { results := [.lit (.bool true)], args := [d1, d2] }
  | _ => none }
def percentReadsRow : OpenClaim := { program := "ytbkhgmehfgfmfaa", sum := "c31cd8aa1c60e6bb8ce4a463e66e05aaeb6a81085f3824bce95c8ff74e22d595", func := "nuncio/nunciolaw08.PercentReads", spec := "percentReads", inPlace := ["internal/bytealg.IndexByteString", "internal/abi.NoEscape"], unfollowed := true, recurses := true, apart := false }
def PercentReadsSaid : Prop := percentReadsRow.holds Try.pinned (OpenSpec.ofChange percentReadsSpec)

/-- ITS FALSE NEIGHBOUR: 'it returns false'. Refute it at one input. -/
def percentReadsWrong : ChangeSpec := { name := "percentReads", fn := fun _ => fun
  | [d1, d2] => { results := [.lit (.bool false)], args := [d1, d2] }
  | _ => none }
def PercentReadsWrongFalsely : Prop := percentReadsRow.holds Try.pinned (OpenSpec.ofChange percentReadsWrong)

/-- 'nunciolaw08.PercentSafe': WHATEVER THE INPUT: true; the input reads as it did. -/
def percentSafeSpec : ChangeSpec := { name := "percentSafe", fn := fun _ => fun
  | [d] => { results := [.lit (.bool true)], args := [d] }
  | _ => none }
def percentSafeRow : OpenClaim := { program := "ytbkhgmehfgfmfaa", sum := "c31cd8aa1c60e6bb8ce4a463e66e05aaeb6a81085f3824bce95c8ff74e22d595", func := "nuncio/nunciolaw08.PercentSafe", spec := "percentSafe", inPlace := ["internal/abi.NoEscape", "internal/bytealg.IndexByteString"], unfollowed := true, recurses := true, apart := false }
def PercentSafeSaid : Prop := percentSafeRow.holds Try.pinned (OpenSpec.ofChange percentSafeSpec)

/-- ITS FALSE NEIGHBOUR: 'it returns false'. Refute it at one input. -/
def percentSafeWrong : ChangeSpec := { name := "percentSafe", fn := fun _ => fun
  | [d] => { results := [.lit (.bool false)], args := [d] }
  | _ => none }
def PercentSafeWrongFalsely : Prop := percentSafeRow.holds Try.pinned (OpenSpec.ofChange percentSafeWrong)

/-- 'nunciolaw05.PrintableEncodes': WHATEVER THE INPUT: true; the input reads as it did. -/
def printableEncodesSpec : ChangeSpec := { name := "printableEncodes", fn := fun _ => fun
  | [d] => { results := [.lit (.bool true)], args := [d] }
  | _ => none }
def printableEncodesRow : OpenClaim := { program := "ytbkhgmehfgfmfaa", sum := "c31cd8aa1c60e6bb8ce4a463e66e05aaeb6a81085f3824bce95c8ff74e22d595", func := "nuncio/nunciolaw05.PrintableEncodes", spec := "printableEncodes", inPlace := ["internal/abi.NoEscape"], unfollowed := true, recurses := true, apart := false }
def PrintableEncodesSaid : Prop := printableEncodesRow.holds Try.pinned (OpenSpec.ofChange printableEncodesSpec)

/-- ITS FALSE NEIGHBOUR: 'it returns false'. Refute it at one input. -/
def printableEncodesWrong : ChangeSpec := { name := "printableEncodes", fn := fun _ => fun
  | [d] => { results := [.lit (.bool false)], args := [d] }
  | _ => none }
def PrintableEncodesWrongFalsely : Prop := printableEncodesRow.holds Try.pinned (OpenSpec.ofChange printableEncodesWrong)

/-- 'nunciolaw05.PrintableDecodes': WHATEVER THE INPUT: true; the input reads as it did. -/
def printableDecodesSpec : ChangeSpec := { name := "printableDecodes", fn := fun _ => fun
  | [d] => { results := [.lit (.bool true)], args := [d] }
  | _ => none }
def printableDecodesRow : OpenClaim := { program := "ytbkhgmehfgfmfaa", sum := "c31cd8aa1c60e6bb8ce4a463e66e05aaeb6a81085f3824bce95c8ff74e22d595", func := "nuncio/nunciolaw05.PrintableDecodes", spec := "printableDecodes", inPlace := ["internal/abi.NoEscape"], unfollowed := true, recurses := true, apart := false }
def PrintableDecodesSaid : Prop := printableDecodesRow.holds Try.pinned (OpenSpec.ofChange printableDecodesSpec)

/-- ITS FALSE NEIGHBOUR: 'it returns false'. Refute it at one input. -/
def printableDecodesWrong : ChangeSpec := { name := "printableDecodes", fn := fun _ => fun
  | [d] => { results := [.lit (.bool false)], args := [d] }
  | _ => none }
def PrintableDecodesWrongFalsely : Prop := printableDecodesRow.holds Try.pinned (OpenSpec.ofChange printableDecodesWrong)

/-- 'nunciolaw05.PrintableLines': WHATEVER THE INPUT: true; the input reads as it did. -/
def printableLinesSpec : ChangeSpec := { name := "printableLines", fn := fun _ => fun
  | [d] => { results := [.lit (.bool true)], args := [d] }
  | _ => none }
def printableLinesRow : OpenClaim := { program := "ytbkhgmehfgfmfaa", sum := "c31cd8aa1c60e6bb8ce4a463e66e05aaeb6a81085f3824bce95c8ff74e22d595", func := "nuncio/nunciolaw05.PrintableLines", spec := "printableLines", inPlace := ["internal/abi.NoEscape"], unfollowed := true, recurses := true, apart := false }
def PrintableLinesSaid : Prop := printableLinesRow.holds Try.pinned (OpenSpec.ofChange printableLinesSpec)

/-- ITS FALSE NEIGHBOUR: 'it returns false'. Refute it at one input. -/
def printableLinesWrong : ChangeSpec := { name := "printableLines", fn := fun _ => fun
  | [d] => { results := [.lit (.bool false)], args := [d] }
  | _ => none }
def PrintableLinesWrongFalsely : Prop := printableLinesRow.holds Try.pinned (OpenSpec.ofChange printableLinesWrong)

/- THE SECOND FORM. 'bulk': how many values and letters a reading holds, each counted each time it is reached (what is shared counts as often as it is met; a slice's spare places count too). A statement '..UptoSaid' is the law's where the arguments, and the package variables that the reading takes, are together of bulk at most 1048576: NARROWER than '..Said'. Prove '..Said' where nothing that the law and all that it calls make is longer than what came in: it says more and counts as full. Else prove '..UptoSaid'. A law counts once. -/
mutual
def uptoBulk {H : Type} : DataW H → Nat
  | .lit (.string bytes) => bytes.length + 1
  | .lit _ => 1
  | .nil => 1
  | .ptr d => uptoBulk d + 1
  | .slice elems spare => uptoBulkAll elems + uptoBulkAll spare + 1
  | .agg parts => uptoBulkAll parts + 1
  | .iface _ d => uptoBulk d + 1
  | .map entries => uptoBulkEntries entries + 1
  | .held _ => 1
def uptoBulkAll {H : Type} : List (DataW H) → Nat
  | [] => 0
  | d :: r => uptoBulk d + uptoBulkAll r
def uptoBulkEntries {H : Type} : List (Lit × DataW H) → Nat
  | [] => 0
  | x :: r => uptoBulkEntry x + uptoBulkEntries r
def uptoBulkEntry {H : Type} : Lit × DataW H → Nat
  | (.string bytes, d) => bytes.length + uptoBulk d + 1
  | (_, d) => uptoBulk d + 1
 end
def uptoSmall : (H : Type) → List (DataW H) → Bool := fun _ ds => decide (uptoBulkAll ds ≤ 1048576)
def OpenSpec.upto (s : _root_.Go.ChangeSpec) : _root_.Go.OpenSpec := { _root_.Go.OpenSpec.ofChange s with cond := some uptoSmall }

/-- 'nunciolaw08.PercentWrites', WHERE WHAT IT READS IS OF BULK AT MOST 1048576: true; the input reads as it did. -/
def percentWritesUptoRow : OpenClaim := { program := "ytbkhgmehfgfmfaa", sum := "c31cd8aa1c60e6bb8ce4a463e66e05aaeb6a81085f3824bce95c8ff74e22d595", func := "nuncio/nunciolaw08.PercentWrites", spec := "percentWrites", inPlace := ["internal/abi.NoEscape", "internal/bytealg.IndexByteString"], unfollowed := true, recurses := true, apart := false, narrowed := true }
def PercentWritesUptoSaid : Prop := percentWritesUptoRow.holds Try.pinned (OpenSpec.upto percentWritesSpec)

/-- 'nunciolaw08.PercentReads', WHERE WHAT IT READS IS OF BULK AT MOST 1048576: true; the input reads as it did. -/
def percentReadsUptoRow : OpenClaim := { program := "ytbkhgmehfgfmfaa", sum := "c31cd8aa1c60e6bb8ce4a463e66e05aaeb6a81085f3824bce95c8ff74e22d595", func := "nuncio/nunciolaw08.PercentReads", spec := "percentReads", inPlace := ["internal/bytealg.IndexByteString", "internal/abi.NoEscape"], unfollowed := true, recurses := true, apart := false, narrowed := true }
def PercentReadsUptoSaid : Prop := percentReadsUptoRow.holds Try.pinned (OpenSpec.upto percentReadsSpec)

/-- 'nunciolaw08.PercentSafe', WHERE WHAT IT READS IS OF BULK AT MOST 1048576: true; the input reads as it did. -/
def percentSafeUptoRow : OpenClaim := { program := "ytbkhgmehfgfmfaa", sum := "c31cd8aa1c60e6bb8ce4a463e66e05aaeb6a81085f3824bce95c8ff74e22d595", func := "nuncio/nunciolaw08.PercentSafe", spec := "percentSafe", inPlace := ["internal/abi.NoEscape", "internal/bytealg.IndexByteString"], unfollowed := true, recurses := true, apart := false, narrowed := true }
def PercentSafeUptoSaid : Prop := percentSafeUptoRow.holds Try.pinned (OpenSpec.upto percentSafeSpec)

/-- 'nunciolaw05.PrintableEncodes', WHERE WHAT IT READS IS OF BULK AT MOST 1048576: true; the input reads as it did. -/
def printableEncodesUptoRow : OpenClaim := { program := "ytbkhgmehfgfmfaa", sum := "c31cd8aa1c60e6bb8ce4a463e66e05aaeb6a81085f3824bce95c8ff74e22d595", func := "nuncio/nunciolaw05.PrintableEncodes", spec := "printableEncodes", inPlace := ["internal/abi.NoEscape"], unfollowed := true, recurses := true, apart := false, narrowed := true }
def PrintableEncodesUptoSaid : Prop := printableEncodesUptoRow.holds Try.pinned (OpenSpec.upto printableEncodesSpec)

/-- 'nunciolaw05.PrintableDecodes', WHERE WHAT IT READS IS OF BULK AT MOST 1048576: true; the input reads as it did. -/
def printableDecodesUptoRow : OpenClaim := { program := "ytbkhgmehfgfmfaa", sum := "c31cd8aa1c60e6bb8ce4a463e66e05aaeb6a81085f3824bce95c8ff74e22d595", func := "nuncio/nunciolaw05.PrintableDecodes", spec := "printableDecodes", inPlace := ["internal/abi.NoEscape"], unfollowed := true, recurses := true, apart := false, narrowed := true }
def PrintableDecodesUptoSaid : Prop := printableDecodesUptoRow.holds Try.pinned (OpenSpec.upto printableDecodesSpec)

/-- 'nunciolaw05.PrintableLines', WHERE WHAT IT READS IS OF BULK AT MOST 1048576: true; the input reads as it did. -/
def printableLinesUptoRow : OpenClaim := { program := "ytbkhgmehfgfmfaa", sum := "c31cd8aa1c60e6bb8ce4a463e66e05aaeb6a81085f3824bce95c8ff74e22d595", func := "nuncio/nunciolaw05.PrintableLines", spec := "printableLines", inPlace := ["internal/abi.NoEscape"], unfollowed := true, recurses := true, apart := false, narrowed := true }
def PrintableLinesUptoSaid : Prop := printableLinesUptoRow.holds Try.pinned (OpenSpec.upto printableLinesSpec)

end Rows
end Go.Proofs.Ytbkhgmehfgfmfaa
