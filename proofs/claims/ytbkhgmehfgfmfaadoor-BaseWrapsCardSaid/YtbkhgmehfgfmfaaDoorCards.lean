/-
  DERIVED. GIVEN WITH THE SEED: THE CARDS: each row of YtbkhgmehfgfmfaaDoorRows.lean that lists a variable, with what it lists TIED to the program's text (the seventh form; the later family's looks); each row that meets fmt, with fmt's text TOLD by the authors' own Lean function (tested against real Go, not proved from fmt's source: count such statements apart). THE CARD IS WHAT COUNTS. Prove the row's statement (the work); the ties are given (YtbkhgmehfgfmfaaDoorTie.lean); close each card by the builder's one call (the guide's Derived/Test/ToyasCard.lean, 'card_holds'). Laid BY PROGRAM, IN A SANDBOX (cutbox-door.mjs). By AI agents, Wed Nov 11 2026. No macro, syntax, notation, axiom, sorry.
-/
import Derived.Test.YtbkhgmehfgfmfaaDoorRows
import GoSem.ClaimSeven
namespace Go.Proofs.YtbkhgmehfgfmfaaDoor
namespace Rows

/-- THE TIED CARD OF 'nunciolaw04.BaseCodes'. -/
def baseCodesCard : Claim7 := { stood := { row := baseCodesRow, standIns := [], harness := (true, "5bb2e1a3f14e205e315e892f3342b3fbd4d78f5da039db78b6bce9347f48fd58"), looks := false }, kinds := [], alts := [], laidByText := true, laidKinds := [.data], laidTests := true, laidLooks := .later }
def BaseCodesCardSaid : Prop := Claim7.holds Tryd.pinned (.plain (OpenSpec.ofChange baseCodesSpec)) baseCodesCard

/-- THE TIED CARD OF 'nunciolaw04.BaseWraps'. -/
def baseWrapsCard : Claim7 := { stood := { row := baseWrapsRow, standIns := [], harness := (true, "5bb2e1a3f14e205e315e892f3342b3fbd4d78f5da039db78b6bce9347f48fd58"), looks := false }, kinds := [], alts := [], laidByText := true, laidKinds := [.data], laidTests := true, laidLooks := .later }
def BaseWrapsCardSaid : Prop := Claim7.holds Tryd.pinned (.plain (OpenSpec.ofChange baseWrapsSpec)) baseWrapsCard

/-- THE TIED CARD OF 'nunciolaw04.BaseInners'. -/
def baseInnersCard : Claim7 := { stood := { row := baseInnersRow, standIns := [], harness := (true, "5bb2e1a3f14e205e315e892f3342b3fbd4d78f5da039db78b6bce9347f48fd58"), looks := false }, kinds := [], alts := [], laidByText := true, laidKinds := [.data], laidTests := true, laidLooks := .later }
def BaseInnersCardSaid : Prop := Claim7.holds Tryd.pinned (.plain (OpenSpec.ofChange baseInnersSpec)) baseInnersCard

/-- THE TIED CARD OF 'nunciolaw04.BaseMails'. -/
def baseMailsCard : Claim7 := { stood := { row := baseMailsRow, standIns := [], harness := (true, "5bb2e1a3f14e205e315e892f3342b3fbd4d78f5da039db78b6bce9347f48fd58"), looks := false }, kinds := [], alts := [], laidByText := true, laidKinds := [.data], laidTests := true, laidLooks := .later }
def BaseMailsCardSaid : Prop := Claim7.holds Tryd.pinned (.plain (OpenSpec.ofChange baseMailsSpec)) baseMailsCard

/-- THE SECOND FORM's CARD OF 'nunciolaw04.BaseCodes'. -/
def baseCodesUptoCard : Claim7 := { stood := { row := baseCodesUptoRow, standIns := [], harness := (true, "5bb2e1a3f14e205e315e892f3342b3fbd4d78f5da039db78b6bce9347f48fd58"), looks := false }, kinds := [], alts := [], laidByText := true, laidKinds := [.data], laidTests := true, laidLooks := .later }
def BaseCodesUptoCardSaid : Prop := Claim7.holds Tryd.pinned (.plain (OpenSpec.upto baseCodesSpec)) baseCodesUptoCard

/-- THE SECOND FORM's CARD OF 'nunciolaw04.BaseWraps'. -/
def baseWrapsUptoCard : Claim7 := { stood := { row := baseWrapsUptoRow, standIns := [], harness := (true, "5bb2e1a3f14e205e315e892f3342b3fbd4d78f5da039db78b6bce9347f48fd58"), looks := false }, kinds := [], alts := [], laidByText := true, laidKinds := [.data], laidTests := true, laidLooks := .later }
def BaseWrapsUptoCardSaid : Prop := Claim7.holds Tryd.pinned (.plain (OpenSpec.upto baseWrapsSpec)) baseWrapsUptoCard

/-- THE SECOND FORM's CARD OF 'nunciolaw04.BaseInners'. -/
def baseInnersUptoCard : Claim7 := { stood := { row := baseInnersUptoRow, standIns := [], harness := (true, "5bb2e1a3f14e205e315e892f3342b3fbd4d78f5da039db78b6bce9347f48fd58"), looks := false }, kinds := [], alts := [], laidByText := true, laidKinds := [.data], laidTests := true, laidLooks := .later }
def BaseInnersUptoCardSaid : Prop := Claim7.holds Tryd.pinned (.plain (OpenSpec.upto baseInnersSpec)) baseInnersUptoCard

/-- THE SECOND FORM's CARD OF 'nunciolaw04.BaseMails'. -/
def baseMailsUptoCard : Claim7 := { stood := { row := baseMailsUptoRow, standIns := [], harness := (true, "5bb2e1a3f14e205e315e892f3342b3fbd4d78f5da039db78b6bce9347f48fd58"), looks := false }, kinds := [], alts := [], laidByText := true, laidKinds := [.data], laidTests := true, laidLooks := .later }
def BaseMailsUptoCardSaid : Prop := Claim7.holds Tryd.pinned (.plain (OpenSpec.upto baseMailsSpec)) baseMailsUptoCard
end Rows
end Go.Proofs.YtbkhgmehfgfmfaaDoor
