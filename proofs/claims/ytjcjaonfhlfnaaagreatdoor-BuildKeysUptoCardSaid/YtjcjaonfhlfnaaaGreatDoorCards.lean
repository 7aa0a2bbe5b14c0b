/-
  DERIVED. GIVEN WITH THE SEED: THE CARDS: each row of YtjcjaonfhlfnaaaGreatDoorRows.lean that lists a variable, with what it lists TIED to the program's text (the seventh form; the later family's looks); each row that meets fmt, with fmt's text TOLD by the authors' own Lean function (tested against real Go, not proved from fmt's source: count such statements apart). THE CARD IS WHAT COUNTS. Prove the row's statement (the work); the ties are given (YtjcjaonfhlfnaaaGreatDoorTie.lean); close each card by the builder's one call (the guide's Derived/Test/ToyasCard.lean, 'card_holds'). Laid BY PROGRAM, IN A SANDBOX (cutbox-door.mjs). By AI agents, Wed Nov 11 2026. No macro, syntax, notation, axiom, sorry.
-/
import Derived.Test.YtjcjaonfhlfnaaaGreatDoorRows
import GoSem.ClaimSeven
namespace Go.Proofs.YtjcjaonfhlfnaaaGreatDoor
namespace Rows

/-- THE TIED CARD OF 'foundrylaw.BuildKeys'. -/
def buildKeysCard : Claim7 := { stood := { row := buildKeysRow, standIns := [], harness := (true, "e376bcf5cddc712b3391f683d508aae995e50c8c3d6e19e6010170cb34929340"), looks := true }, kinds := [], alts := [], laidByText := true, laidKinds := [.data, .data, .data, .data, .sentinel, .sentinel, .data, .data, .widerDeep, .widerDeep, .pinned], laidTests := true, laidLooks := .later }
def BuildKeysCardSaid : Prop := Claim7.holds Tryz.pinned (.plain (OpenSpec.ofChange buildKeysSpec)) buildKeysCard

/-- THE SECOND FORM's CARD OF 'foundrylaw.BuildKeys'. -/
def buildKeysUptoCard : Claim7 := { stood := { row := buildKeysUptoRow, standIns := [], harness := (true, "e376bcf5cddc712b3391f683d508aae995e50c8c3d6e19e6010170cb34929340"), looks := true }, kinds := [], alts := [], laidByText := true, laidKinds := [.data, .data, .data, .data, .sentinel, .sentinel, .data, .data, .widerDeep, .widerDeep, .pinned], laidTests := true, laidLooks := .later }
def BuildKeysUptoCardSaid : Prop := Claim7.holds Tryz.pinned (.plain (OpenSpec.upto buildKeysSpec)) buildKeysUptoCard
end Rows
end Go.Proofs.YtjcjaonfhlfnaaaGreatDoor
