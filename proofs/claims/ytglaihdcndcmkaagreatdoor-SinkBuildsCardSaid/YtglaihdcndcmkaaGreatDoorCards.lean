/-
  DERIVED. GIVEN WITH THE SEED: THE CARDS: each row of YtglaihdcndcmkaaGreatDoorRows.lean that lists a variable, with what it lists TIED to the program's text (the seventh form; the later family's looks); each row that meets fmt, with fmt's text TOLD by the authors' own Lean function (tested against real Go, not proved from fmt's source: count such statements apart). THE CARD IS WHAT COUNTS. Prove the row's statement (the work); the ties are given (YtglaihdcndcmkaaGreatDoorTie.lean); close each card by the builder's one call (the guide's Derived/Test/ToyasCard.lean, 'card_holds'). Laid BY PROGRAM, IN A SANDBOX (cutbox-door.mjs). By AI agents, Wed Nov 11 2026. No macro, syntax, notation, axiom, sorry.
-/
import Derived.Test.YtglaihdcndcmkaaGreatDoorRows
import GoSem.ClaimSeven
namespace Go.Proofs.YtglaihdcndcmkaaGreatDoor
namespace Rows

/-- THE TIED CARD OF 'nunciolaw36.EmailReads'. -/
def emailReadsCard : Claim7 := { stood := { row := emailReadsRow, standIns := [], harness := (true, "f9fca511065ef4902a09895d9e9ebcb2f47c35296c4fc38f523faf72ad352627"), looks := true }, kinds := [], alts := [], laidByText := true, laidKinds := [.data, .data, .pinned], laidTests := true, laidLooks := .later }
def EmailReadsCardSaid : Prop := Claim7.holds Tryz.pinned (.plain (OpenSpec.ofChange emailReadsSpec)) emailReadsCard

/-- THE TIED CARD OF 'nunciolaw39.SinkReads'. -/
def sinkReadsCard : Claim7 := { stood := { row := sinkReadsRow, standIns := [], harness := (true, "f9fca511065ef4902a09895d9e9ebcb2f47c35296c4fc38f523faf72ad352627"), looks := true }, kinds := [], alts := [], laidByText := true, laidKinds := [.data, .data, .pinned], laidTests := true, laidLooks := .later }
def SinkReadsCardSaid : Prop := Claim7.holds Tryz.pinned (.plain (OpenSpec.ofChange sinkReadsSpec)) sinkReadsCard

/-- THE TIED CARD OF 'nunciolaw39.SinkBuilds'. -/
def sinkBuildsCard : Claim7 := { stood := { row := sinkBuildsRow, standIns := [], harness := (true, "f9fca511065ef4902a09895d9e9ebcb2f47c35296c4fc38f523faf72ad352627"), looks := true }, kinds := [], alts := [], laidByText := true, laidKinds := [.data, .data, .pinned], laidTests := true, laidLooks := .later }
def SinkBuildsCardSaid : Prop := Claim7.holds Tryz.pinned (.plain (OpenSpec.ofChange sinkBuildsSpec)) sinkBuildsCard

/-- THE TIED CARD OF 'nunciolaw39.SinkShapes'. -/
def sinkShapesCard : Claim7 := { stood := { row := sinkShapesRow, standIns := [], harness := (true, "f9fca511065ef4902a09895d9e9ebcb2f47c35296c4fc38f523faf72ad352627"), looks := true }, kinds := [], alts := [], laidByText := true, laidKinds := [.data, .data, .pinned], laidTests := true, laidLooks := .later }
def SinkShapesCardSaid : Prop := Claim7.holds Tryz.pinned (.plain (OpenSpec.ofChange sinkShapesSpec)) sinkShapesCard

/-- THE SECOND FORM's CARD OF 'nunciolaw36.EmailReads'. -/
def emailReadsUptoCard : Claim7 := { stood := { row := emailReadsUptoRow, standIns := [], harness := (true, "f9fca511065ef4902a09895d9e9ebcb2f47c35296c4fc38f523faf72ad352627"), looks := true }, kinds := [], alts := [], laidByText := true, laidKinds := [.data, .data, .pinned], laidTests := true, laidLooks := .later }
def EmailReadsUptoCardSaid : Prop := Claim7.holds Tryz.pinned (.plain (OpenSpec.upto emailReadsSpec)) emailReadsUptoCard

/-- THE SECOND FORM's CARD OF 'nunciolaw39.SinkReads'. -/
def sinkReadsUptoCard : Claim7 := { stood := { row := sinkReadsUptoRow, standIns := [], harness := (true, "f9fca511065ef4902a09895d9e9ebcb2f47c35296c4fc38f523faf72ad352627"), looks := true }, kinds := [], alts := [], laidByText := true, laidKinds := [.data, .data, .pinned], laidTests := true, laidLooks := .later }
def SinkReadsUptoCardSaid : Prop := Claim7.holds Tryz.pinned (.plain (OpenSpec.upto sinkReadsSpec)) sinkReadsUptoCard

/-- THE SECOND FORM's CARD OF 'nunciolaw39.SinkBuilds'. -/
def sinkBuildsUptoCard : Claim7 := { stood := { row := sinkBuildsUptoRow, standIns := [], harness := (true, "f9fca511065ef4902a09895d9e9ebcb2f47c35296c4fc38f523faf72ad352627"), looks := true }, kinds := [], alts := [], laidByText := true, laidKinds := [.data, .data, .pinned], laidTests := true, laidLooks := .later }
def SinkBuildsUptoCardSaid : Prop := Claim7.holds Tryz.pinned (.plain (OpenSpec.upto sinkBuildsSpec)) sinkBuildsUptoCard

/-- THE SECOND FORM's CARD OF 'nunciolaw39.SinkShapes'. -/
def sinkShapesUptoCard : Claim7 := { stood := { row := sinkShapesUptoRow, standIns := [], harness := (true, "f9fca511065ef4902a09895d9e9ebcb2f47c35296c4fc38f523faf72ad352627"), looks := true }, kinds := [], alts := [], laidByText := true, laidKinds := [.data, .data, .pinned], laidTests := true, laidLooks := .later }
def SinkShapesUptoCardSaid : Prop := Claim7.holds Tryz.pinned (.plain (OpenSpec.upto sinkShapesSpec)) sinkShapesUptoCard
end Rows
end Go.Proofs.YtglaihdcndcmkaaGreatDoor
