/-
  DERIVED. GIVEN WITH THE SEED: THE CARDS: each row of YtdfflbpifpoogaaDoorRows.lean that lists a variable, with what it lists TIED to the program's text (the seventh form; the later family's looks); each row that meets fmt, with fmt's text TOLD by the authors' own Lean function (tested against real Go, not proved from fmt's source: count such statements apart). THE CARD IS WHAT COUNTS. Prove the row's statement (the work); the ties are given (YtdfflbpifpoogaaDoorTie.lean); close each card by the builder's one call (the guide's Derived/Test/ToyasCard.lean, 'card_holds'). Laid BY PROGRAM, IN A SANDBOX (cutbox-door.mjs). By AI agents, Wed Nov 11 2026. No macro, syntax, notation, axiom, sorry.
-/
import Derived.Test.YtdfflbpifpoogaaDoorRows
import GoSem.ClaimSeven
namespace Go.Proofs.YtdfflbpifpoogaaDoor
namespace Rows

/-- THE TIED CARD OF 'nunciolaw13.HeadSplits'. -/
def headSplitsCard : Claim7 := { stood := { row := headSplitsRow, standIns := [], harness := (true, "85544a4ee0e1fef3f92d658d88eb15f15a7b50e4fda37eea8480a4f6b55f7dd8"), looks := false }, kinds := [], alts := [], laidByText := true, laidKinds := [.data, .pinned], laidTests := true, laidLooks := .later }
def HeadSplitsCardSaid : Prop := Claim7.holds Tryd.pinned (.plain (OpenSpec.ofChange headSplitsSpec)) headSplitsCard

/-- THE TIED CARD OF 'nunciolaw13.HeadLongs'. -/
def headLongsCard : Claim7 := { stood := { row := headLongsRow, standIns := [], harness := (true, "85544a4ee0e1fef3f92d658d88eb15f15a7b50e4fda37eea8480a4f6b55f7dd8"), looks := false }, kinds := [], alts := [], laidByText := true, laidKinds := [.data, .pinned], laidTests := true, laidLooks := .later }
def HeadLongsCardSaid : Prop := Claim7.holds Tryd.pinned (.plain (OpenSpec.ofChange headLongsSpec)) headLongsCard

/-- THE TIED CARD OF 'nunciolaw13.HeadParams'. -/
def headParamsCard : Claim7 := { stood := { row := headParamsRow, standIns := [], harness := (true, "85544a4ee0e1fef3f92d658d88eb15f15a7b50e4fda37eea8480a4f6b55f7dd8"), looks := false }, kinds := [], alts := [], laidByText := true, laidKinds := [.data, .pinned], laidTests := true, laidLooks := .later }
def HeadParamsCardSaid : Prop := Claim7.holds Tryd.pinned (.plain (OpenSpec.ofChange headParamsSpec)) headParamsCard

/-- THE TIED CARD OF 'nunciolaw13.HeadQuotes'. -/
def headQuotesCard : Claim7 := { stood := { row := headQuotesRow, standIns := [], harness := (true, "85544a4ee0e1fef3f92d658d88eb15f15a7b50e4fda37eea8480a4f6b55f7dd8"), looks := false }, kinds := [], alts := [], laidByText := true, laidKinds := [.data, .pinned], laidTests := true, laidLooks := .later }
def HeadQuotesCardSaid : Prop := Claim7.holds Tryd.pinned (.plain (OpenSpec.ofChange headQuotesSpec)) headQuotesCard

/-- THE TIED CARD OF 'nunciolaw13.HeadGets'. -/
def headGetsCard : Claim7 := { stood := { row := headGetsRow, standIns := [], harness := (true, "85544a4ee0e1fef3f92d658d88eb15f15a7b50e4fda37eea8480a4f6b55f7dd8"), looks := false }, kinds := [], alts := [], laidByText := true, laidKinds := [.data, .pinned], laidTests := true, laidLooks := .later }
def HeadGetsCardSaid : Prop := Claim7.holds Tryd.pinned (.plain (OpenSpec.ofChange headGetsSpec)) headGetsCard

/-- THE SECOND FORM's CARD OF 'nunciolaw13.HeadSplits'. -/
def headSplitsUptoCard : Claim7 := { stood := { row := headSplitsUptoRow, standIns := [], harness := (true, "85544a4ee0e1fef3f92d658d88eb15f15a7b50e4fda37eea8480a4f6b55f7dd8"), looks := false }, kinds := [], alts := [], laidByText := true, laidKinds := [.data, .pinned], laidTests := true, laidLooks := .later }
def HeadSplitsUptoCardSaid : Prop := Claim7.holds Tryd.pinned (.plain (OpenSpec.upto headSplitsSpec)) headSplitsUptoCard

/-- THE SECOND FORM's CARD OF 'nunciolaw13.HeadLongs'. -/
def headLongsUptoCard : Claim7 := { stood := { row := headLongsUptoRow, standIns := [], harness := (true, "85544a4ee0e1fef3f92d658d88eb15f15a7b50e4fda37eea8480a4f6b55f7dd8"), looks := false }, kinds := [], alts := [], laidByText := true, laidKinds := [.data, .pinned], laidTests := true, laidLooks := .later }
def HeadLongsUptoCardSaid : Prop := Claim7.holds Tryd.pinned (.plain (OpenSpec.upto headLongsSpec)) headLongsUptoCard

/-- THE SECOND FORM's CARD OF 'nunciolaw13.HeadParams'. -/
def headParamsUptoCard : Claim7 := { stood := { row := headParamsUptoRow, standIns := [], harness := (true, "85544a4ee0e1fef3f92d658d88eb15f15a7b50e4fda37eea8480a4f6b55f7dd8"), looks := false }, kinds := [], alts := [], laidByText := true, laidKinds := [.data, .pinned], laidTests := true, laidLooks := .later }
def HeadParamsUptoCardSaid : Prop := Claim7.holds Tryd.pinned (.plain (OpenSpec.upto headParamsSpec)) headParamsUptoCard

/-- THE SECOND FORM's CARD OF 'nunciolaw13.HeadQuotes'. -/
def headQuotesUptoCard : Claim7 := { stood := { row := headQuotesUptoRow, standIns := [], harness := (true, "85544a4ee0e1fef3f92d658d88eb15f15a7b50e4fda37eea8480a4f6b55f7dd8"), looks := false }, kinds := [], alts := [], laidByText := true, laidKinds := [.data, .pinned], laidTests := true, laidLooks := .later }
def HeadQuotesUptoCardSaid : Prop := Claim7.holds Tryd.pinned (.plain (OpenSpec.upto headQuotesSpec)) headQuotesUptoCard

/-- THE SECOND FORM's CARD OF 'nunciolaw13.HeadGets'. -/
def headGetsUptoCard : Claim7 := { stood := { row := headGetsUptoRow, standIns := [], harness := (true, "85544a4ee0e1fef3f92d658d88eb15f15a7b50e4fda37eea8480a4f6b55f7dd8"), looks := false }, kinds := [], alts := [], laidByText := true, laidKinds := [.data, .pinned], laidTests := true, laidLooks := .later }
def HeadGetsUptoCardSaid : Prop := Claim7.holds Tryd.pinned (.plain (OpenSpec.upto headGetsSpec)) headGetsUptoCard
end Rows
end Go.Proofs.YtdfflbpifpoogaaDoor
