/-
  DERIVED. GIVEN WITH THE SEED: THE CARDS: each row of YtmpiobfdchlikaaDoorRows.lean that lists a variable, with what it lists TIED to the program's text (the seventh form; the later family's looks); each row that meets fmt, with fmt's text TOLD by the authors' own Lean function (tested against real Go, not proved from fmt's source: count such statements apart). THE CARD IS WHAT COUNTS. Prove the row's statement (the work); the ties are given (YtmpiobfdchlikaaDoorTie.lean); close each card by the builder's one call (the guide's Derived/Test/ToyasCard.lean, 'card_holds'). Laid BY PROGRAM, IN A SANDBOX (cutbox-door.mjs). By AI agents, Wed Nov 11 2026. No macro, syntax, notation, axiom, sorry.
-/
import Derived.Test.YtmpiobfdchlikaaDoorRows
import GoSem.ClaimSeven
namespace Go.Proofs.YtmpiobfdchlikaaDoor
namespace Rows

/-- THE TIED CARD OF 'nunciolaw14.LetterHolds'. -/
def letterHoldsCard : Claim7 := { stood := { row := letterHoldsRow, standIns := [], harness := (true, "3da07ec4aa14e136b73da3ac0648225e87e5b2478c8f2d167c7cf9db6ceca347"), looks := true }, kinds := [], alts := [], laidByText := true, laidKinds := [.data, .pinned], laidTests := true, laidLooks := .later }
def LetterHoldsCardSaid : Prop := Claim7.holds Tryd.pinned (.plain (OpenSpec.ofChange letterHoldsSpec)) letterHoldsCard

/-- THE TIED CARD OF 'nunciolaw14.LetterSames'. -/
def letterSamesCard : Claim7 := { stood := { row := letterSamesRow, standIns := [], harness := (true, "3da07ec4aa14e136b73da3ac0648225e87e5b2478c8f2d167c7cf9db6ceca347"), looks := true }, kinds := [], alts := [], laidByText := true, laidKinds := [.data, .pinned], laidTests := true, laidLooks := .later }
def LetterSamesCardSaid : Prop := Claim7.holds Tryd.pinned (.plain (OpenSpec.ofChange letterSamesSpec)) letterSamesCard

/-- THE SECOND FORM's CARD OF 'nunciolaw14.LetterHolds'. -/
def letterHoldsUptoCard : Claim7 := { stood := { row := letterHoldsUptoRow, standIns := [], harness := (true, "3da07ec4aa14e136b73da3ac0648225e87e5b2478c8f2d167c7cf9db6ceca347"), looks := true }, kinds := [], alts := [], laidByText := true, laidKinds := [.data, .pinned], laidTests := true, laidLooks := .later }
def LetterHoldsUptoCardSaid : Prop := Claim7.holds Tryd.pinned (.plain (OpenSpec.upto letterHoldsSpec)) letterHoldsUptoCard

/-- THE SECOND FORM's CARD OF 'nunciolaw14.LetterSames'. -/
def letterSamesUptoCard : Claim7 := { stood := { row := letterSamesUptoRow, standIns := [], harness := (true, "3da07ec4aa14e136b73da3ac0648225e87e5b2478c8f2d167c7cf9db6ceca347"), looks := true }, kinds := [], alts := [], laidByText := true, laidKinds := [.data, .pinned], laidTests := true, laidLooks := .later }
def LetterSamesUptoCardSaid : Prop := Claim7.holds Tryd.pinned (.plain (OpenSpec.upto letterSamesSpec)) letterSamesUptoCard
end Rows
end Go.Proofs.YtmpiobfdchlikaaDoor
