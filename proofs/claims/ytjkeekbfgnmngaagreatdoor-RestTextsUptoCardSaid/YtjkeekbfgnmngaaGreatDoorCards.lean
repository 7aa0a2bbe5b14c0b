/-
  DERIVED. GIVEN WITH THE SEED: THE CARDS: each row of YtjkeekbfgnmngaaGreatDoorRows.lean that lists a variable, with what it lists TIED to the program's text (the seventh form; the later family's looks); each row that meets fmt, with fmt's text TOLD by the authors' own Lean function (tested against real Go, not proved from fmt's source: count such statements apart). THE CARD IS WHAT COUNTS. Prove the row's statement (the work); the ties are given (YtjkeekbfgnmngaaGreatDoorTie.lean); close each card by the builder's one call (the guide's Derived/Test/ToyasCard.lean, 'card_holds'). Laid BY PROGRAM, IN A SANDBOX (cutbox-door.mjs). By AI agents, Wed Nov 11 2026. No macro, syntax, notation, axiom, sorry.
-/
import Derived.Test.YtjkeekbfgnmngaaGreatDoorRows
import GoSem.ClaimSeven
namespace Go.Proofs.YtjkeekbfgnmngaaGreatDoor
namespace Rows

/-- THE TIED CARD OF 'foundrylaw.RestFiles'. -/
def restFilesCard : Claim7 := { stood := { row := restFilesRow, standIns := [], harness := (true, "bb8f1075b03d09746b5e92e48d6168f719b1e90f136a3e0bf59d885739ba432c"), looks := true }, kinds := [], alts := [], laidByText := true, laidKinds := [.data, .data, .data, .pinned], laidTests := true, laidLooks := .later }
def RestFilesCardSaid : Prop := Claim7.holds Tryz.pinned (.plain (OpenSpec.ofChange restFilesSpec)) restFilesCard

/-- THE TIED CARD OF 'foundrylaw.RestTexts'. -/
def restTextsCard : Claim7 := { stood := { row := restTextsRow, standIns := [], harness := (true, "bb8f1075b03d09746b5e92e48d6168f719b1e90f136a3e0bf59d885739ba432c"), looks := true }, kinds := [], alts := [], laidByText := true, laidKinds := [.data, .data, .data, .data, .sentinel, .sentinel, .data, .data, .pinned], laidTests := true, laidLooks := .later }
def RestTextsCardSaid : Prop := Claim7.holds Tryz.pinned (.plain (OpenSpec.ofChange restTextsSpec)) restTextsCard

/-- THE SECOND FORM's CARD OF 'foundrylaw.RestFiles'. -/
def restFilesUptoCard : Claim7 := { stood := { row := restFilesUptoRow, standIns := [], harness := (true, "bb8f1075b03d09746b5e92e48d6168f719b1e90f136a3e0bf59d885739ba432c"), looks := true }, kinds := [], alts := [], laidByText := true, laidKinds := [.data, .data, .data, .pinned], laidTests := true, laidLooks := .later }
def RestFilesUptoCardSaid : Prop := Claim7.holds Tryz.pinned (.plain (OpenSpec.upto restFilesSpec)) restFilesUptoCard

/-- THE SECOND FORM's CARD OF 'foundrylaw.RestTexts'. -/
def restTextsUptoCard : Claim7 := { stood := { row := restTextsUptoRow, standIns := [], harness := (true, "bb8f1075b03d09746b5e92e48d6168f719b1e90f136a3e0bf59d885739ba432c"), looks := true }, kinds := [], alts := [], laidByText := true, laidKinds := [.data, .data, .data, .data, .sentinel, .sentinel, .data, .data, .pinned], laidTests := true, laidLooks := .later }
def RestTextsUptoCardSaid : Prop := Claim7.holds Tryz.pinned (.plain (OpenSpec.upto restTextsSpec)) restTextsUptoCard
end Rows
end Go.Proofs.YtjkeekbfgnmngaaGreatDoor
