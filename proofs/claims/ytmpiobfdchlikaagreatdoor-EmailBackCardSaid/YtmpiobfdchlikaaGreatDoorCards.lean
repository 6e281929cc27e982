/-
  DERIVED. GIVEN WITH THE SEED: THE CARDS: each row of YtmpiobfdchlikaaGreatDoorRows.lean that lists a variable, with what it lists TIED to the program's text (the seventh form; the later family's looks); each row that meets fmt, with fmt's text TOLD by the authors' own Lean function (tested against real Go, not proved from fmt's source: count such statements apart). THE CARD IS WHAT COUNTS. Prove the row's statement (the work); the ties are given (YtmpiobfdchlikaaGreatDoorTie.lean); close each card by the builder's one call (the guide's Derived/Test/ToyasCard.lean, 'card_holds'). Laid BY PROGRAM, IN A SANDBOX (cutbox-door.mjs). By AI agents, Wed Nov 11 2026. No macro, syntax, notation, axiom, sorry.
-/
import Derived.Test.YtmpiobfdchlikaaGreatDoorRows
import GoSem.ClaimSeven
namespace Go.Proofs.YtmpiobfdchlikaaGreatDoor
namespace Rows

/-- THE TIED CARD OF 'nunciolaw36.EmailBuilds'. -/
def emailBuildsCard : Claim7 := { stood := { row := emailBuildsRow, standIns := [], harness := (true, "e420b8c8c04be5be850ab7770be3e24bcc9ecd9650fc6a74deb89aa4cf9c60c4"), looks := true }, kinds := [], alts := [], laidByText := true, laidKinds := [.data], laidTests := true, laidLooks := .later }
def EmailBuildsCardSaid : Prop := Claim7.holds Tryz.pinned (.plain (OpenSpec.ofChange emailBuildsSpec)) emailBuildsCard

/-- THE TIED CARD OF 'nunciolaw36.EmailHolds'. -/
def emailHoldsCard : Claim7 := { stood := { row := emailHoldsRow, standIns := [], harness := (true, "e420b8c8c04be5be850ab7770be3e24bcc9ecd9650fc6a74deb89aa4cf9c60c4"), looks := true }, kinds := [], alts := [], laidByText := true, laidKinds := [.data], laidTests := true, laidLooks := .later }
def EmailHoldsCardSaid : Prop := Claim7.holds Tryz.pinned (.plain (OpenSpec.ofChange emailHoldsSpec)) emailHoldsCard

/-- THE TIED CARD OF 'nunciolaw14.LetterNests'. -/
def letterNestsCard : Claim7 := { stood := { row := letterNestsRow, standIns := [], harness := (true, "e420b8c8c04be5be850ab7770be3e24bcc9ecd9650fc6a74deb89aa4cf9c60c4"), looks := true }, kinds := [], alts := [], laidByText := true, laidKinds := [.data, .pinned], laidTests := true, laidLooks := .later }
def LetterNestsCardSaid : Prop := Claim7.holds Tryz.pinned (.plain (OpenSpec.ofChange letterNestsSpec)) letterNestsCard

/-- THE TIED CARD OF 'nunciolaw36.EmailReads'. -/
def emailReadsCard : Claim7 := { stood := { row := emailReadsRow, standIns := [], harness := (true, "e420b8c8c04be5be850ab7770be3e24bcc9ecd9650fc6a74deb89aa4cf9c60c4"), looks := true }, kinds := [], alts := [], laidByText := true, laidKinds := [.data, .data, .pinned], laidTests := true, laidLooks := .later }
def EmailReadsCardSaid : Prop := Claim7.holds Tryz.pinned (.plain (OpenSpec.ofChange emailReadsSpec)) emailReadsCard

/-- THE TIED CARD OF 'nunciolaw36.EmailBack'. -/
def emailBackCard : Claim7 := { stood := { row := emailBackRow, standIns := [], harness := (true, "e420b8c8c04be5be850ab7770be3e24bcc9ecd9650fc6a74deb89aa4cf9c60c4"), looks := true }, kinds := [], alts := [], laidByText := true, laidKinds := [.data, .data, .pinned], laidTests := true, laidLooks := .later }
def EmailBackCardSaid : Prop := Claim7.holds Tryz.pinned (.plain (OpenSpec.ofChange emailBackSpec)) emailBackCard

/-- THE SECOND FORM's CARD OF 'nunciolaw36.EmailBuilds'. -/
def emailBuildsUptoCard : Claim7 := { stood := { row := emailBuildsUptoRow, standIns := [], harness := (true, "e420b8c8c04be5be850ab7770be3e24bcc9ecd9650fc6a74deb89aa4cf9c60c4"), looks := true }, kinds := [], alts := [], laidByText := true, laidKinds := [.data], laidTests := true, laidLooks := .later }
def EmailBuildsUptoCardSaid : Prop := Claim7.holds Tryz.pinned (.plain (OpenSpec.upto emailBuildsSpec)) emailBuildsUptoCard

/-- THE SECOND FORM's CARD OF 'nunciolaw36.EmailHolds'. -/
def emailHoldsUptoCard : Claim7 := { stood := { row := emailHoldsUptoRow, standIns := [], harness := (true, "e420b8c8c04be5be850ab7770be3e24bcc9ecd9650fc6a74deb89aa4cf9c60c4"), looks := true }, kinds := [], alts := [], laidByText := true, laidKinds := [.data], laidTests := true, laidLooks := .later }
def EmailHoldsUptoCardSaid : Prop := Claim7.holds Tryz.pinned (.plain (OpenSpec.upto emailHoldsSpec)) emailHoldsUptoCard

/-- THE SECOND FORM's CARD OF 'nunciolaw14.LetterNests'. -/
def letterNestsUptoCard : Claim7 := { stood := { row := letterNestsUptoRow, standIns := [], harness := (true, "e420b8c8c04be5be850ab7770be3e24bcc9ecd9650fc6a74deb89aa4cf9c60c4"), looks := true }, kinds := [], alts := [], laidByText := true, laidKinds := [.data, .pinned], laidTests := true, laidLooks := .later }
def LetterNestsUptoCardSaid : Prop := Claim7.holds Tryz.pinned (.plain (OpenSpec.upto letterNestsSpec)) letterNestsUptoCard

/-- THE SECOND FORM's CARD OF 'nunciolaw36.EmailReads'. -/
def emailReadsUptoCard : Claim7 := { stood := { row := emailReadsUptoRow, standIns := [], harness := (true, "e420b8c8c04be5be850ab7770be3e24bcc9ecd9650fc6a74deb89aa4cf9c60c4"), looks := true }, kinds := [], alts := [], laidByText := true, laidKinds := [.data, .data, .pinned], laidTests := true, laidLooks := .later }
def EmailReadsUptoCardSaid : Prop := Claim7.holds Tryz.pinned (.plain (OpenSpec.upto emailReadsSpec)) emailReadsUptoCard

/-- THE SECOND FORM's CARD OF 'nunciolaw36.EmailBack'. -/
def emailBackUptoCard : Claim7 := { stood := { row := emailBackUptoRow, standIns := [], harness := (true, "e420b8c8c04be5be850ab7770be3e24bcc9ecd9650fc6a74deb89aa4cf9c60c4"), looks := true }, kinds := [], alts := [], laidByText := true, laidKinds := [.data, .data, .pinned], laidTests := true, laidLooks := .later }
def EmailBackUptoCardSaid : Prop := Claim7.holds Tryz.pinned (.plain (OpenSpec.upto emailBackSpec)) emailBackUptoCard
end Rows
end Go.Proofs.YtmpiobfdchlikaaGreatDoor
