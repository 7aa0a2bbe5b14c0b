/-
  DERIVED. GIVEN WITH THE SEED: THE CARDS: each row of YtjpmngjoohoddabDoorRows.lean that lists a variable, with what it lists TIED to the program's text (the seventh form; the later family's looks); each row that meets fmt, with fmt's text TOLD by the authors' own Lean function (tested against real Go, not proved from fmt's source: count such statements apart). THE CARD IS WHAT COUNTS. Prove the row's statement (the work); the ties are given (YtjpmngjoohoddabDoorTie.lean); close each card by the builder's one call (the guide's Derived/Test/ToyasCard.lean, 'card_holds'). Laid BY PROGRAM, IN A SANDBOX (cutbox-door.mjs). By AI agents, Wed Nov 11 2026. No macro, syntax, notation, axiom, sorry.
-/
import Derived.Test.YtjpmngjoohoddabDoorRows
import GoSem.ClaimSeven
namespace Go.Proofs.YtjpmngjoohoddabDoor
namespace Rows

/-- THE TIED CARD OF 'foundrylaw.DigestPairs'. -/
def digestPairsCard : Claim7 := { stood := { row := digestPairsRow, standIns := [], harness := (true, "866e1c98775d19bd76a3f8462236176689c548f5ee7e434fa6e63d0c4e59ce11"), looks := true }, kinds := [], alts := [], laidByText := true, laidKinds := [.data, .data, .data, .sentinel, .sentinel, .data, .data], laidTests := true, laidLooks := .later }
def DigestPairsCardSaid : Prop := Claim7.holds Tryd.pinned (.plain (OpenSpec.ofChange digestPairsSpec)) digestPairsCard

/-- THE TIED CARD OF 'foundrylaw.DigestRoots'. -/
def digestRootsCard : Claim7 := { stood := { row := digestRootsRow, standIns := [], harness := (true, "866e1c98775d19bd76a3f8462236176689c548f5ee7e434fa6e63d0c4e59ce11"), looks := true }, kinds := [], alts := [], laidByText := true, laidKinds := [.data, .data, .data, .sentinel, .sentinel, .data, .data], laidTests := true, laidLooks := .later }
def DigestRootsCardSaid : Prop := Claim7.holds Tryd.pinned (.plain (OpenSpec.ofChange digestRootsSpec)) digestRootsCard

/-- THE TIED CARD OF 'foundrylaw.DigestShows'. -/
def digestShowsCard : Claim7 := { stood := { row := digestShowsRow, standIns := [], harness := (true, "866e1c98775d19bd76a3f8462236176689c548f5ee7e434fa6e63d0c4e59ce11"), looks := true }, kinds := [], alts := [], laidByText := true, laidKinds := [.data, .data, .data, .sentinel, .sentinel, .data, .data], laidTests := true, laidLooks := .later }
def DigestShowsCardSaid : Prop := Claim7.holds Tryd.pinned (.plain (OpenSpec.ofChange digestShowsSpec)) digestShowsCard

/-- THE TIED CARD OF 'foundrylaw.DigestSplits'. -/
def digestSplitsCard : Claim7 := { stood := { row := digestSplitsRow, standIns := [], harness := (true, "866e1c98775d19bd76a3f8462236176689c548f5ee7e434fa6e63d0c4e59ce11"), looks := true }, kinds := [], alts := [], laidByText := true, laidKinds := [.data, .data, .data, .sentinel, .sentinel, .data, .data], laidTests := true, laidLooks := .later }
def DigestSplitsCardSaid : Prop := Claim7.holds Tryd.pinned (.plain (OpenSpec.ofChange digestSplitsSpec)) digestSplitsCard

/-- THE TIED CARD OF 'foundrylaw.DigestProofs'. -/
def digestProofsCard : Claim7 := { stood := { row := digestProofsRow, standIns := [], harness := (true, "866e1c98775d19bd76a3f8462236176689c548f5ee7e434fa6e63d0c4e59ce11"), looks := true }, kinds := [], alts := [], laidByText := true, laidKinds := [.data, .data, .data, .sentinel, .sentinel, .data, .data], laidTests := true, laidLooks := .later }
def DigestProofsCardSaid : Prop := Claim7.holds Tryd.pinned (.plain (OpenSpec.ofChange digestProofsSpec)) digestProofsCard

/-- THE TIED CARD OF 'foundrylaw.DigestGuards'. -/
def digestGuardsCard : Claim7 := { stood := { row := digestGuardsRow, standIns := [], harness := (true, "866e1c98775d19bd76a3f8462236176689c548f5ee7e434fa6e63d0c4e59ce11"), looks := true }, kinds := [], alts := [], laidByText := true, laidKinds := [.data, .data, .data, .sentinel, .sentinel, .data, .data], laidTests := true, laidLooks := .later }
def DigestGuardsCardSaid : Prop := Claim7.holds Tryd.pinned (.plain (OpenSpec.ofChange digestGuardsSpec)) digestGuardsCard

/-- THE TIED CARD OF 'foundrylaw.CasOldest'. -/
def casOldestCard : Claim7 := { stood := { row := casOldestRow, standIns := [], harness := (true, "866e1c98775d19bd76a3f8462236176689c548f5ee7e434fa6e63d0c4e59ce11"), looks := true }, kinds := [], alts := [], laidByText := true, laidKinds := [.data, .data], laidTests := true, laidLooks := .later }
def CasOldestCardSaid : Prop := Claim7.holds Tryd.pinned (.plain (OpenSpec.ofChange casOldestSpec)) casOldestCard

/-- THE TIED CARD OF 'foundrylaw.CasKeeps'. -/
def casKeepsCard : Claim7 := { stood := { row := casKeepsRow, standIns := [], harness := (true, "866e1c98775d19bd76a3f8462236176689c548f5ee7e434fa6e63d0c4e59ce11"), looks := true }, kinds := [], alts := [], laidByText := true, laidKinds := [.data, .data], laidTests := true, laidLooks := .later }
def CasKeepsCardSaid : Prop := Claim7.holds Tryd.pinned (.plain (OpenSpec.ofChange casKeepsSpec)) casKeepsCard

/-- THE TIED CARD OF 'foundrylaw.CasPlays'. -/
def casPlaysCard : Claim7 := { stood := { row := casPlaysRow, standIns := [], harness := (true, "866e1c98775d19bd76a3f8462236176689c548f5ee7e434fa6e63d0c4e59ce11"), looks := true }, kinds := [], alts := [], laidByText := true, laidKinds := [.data, .data], laidTests := true, laidLooks := .later }
def CasPlaysCardSaid : Prop := Claim7.holds Tryd.pinned (.plain (OpenSpec.ofChange casPlaysSpec)) casPlaysCard

/-- THE SECOND FORM's CARD OF 'foundrylaw.DigestPairs'. -/
def digestPairsUptoCard : Claim7 := { stood := { row := digestPairsUptoRow, standIns := [], harness := (true, "866e1c98775d19bd76a3f8462236176689c548f5ee7e434fa6e63d0c4e59ce11"), looks := true }, kinds := [], alts := [], laidByText := true, laidKinds := [.data, .data, .data, .sentinel, .sentinel, .data, .data], laidTests := true, laidLooks := .later }
def DigestPairsUptoCardSaid : Prop := Claim7.holds Tryd.pinned (.plain (OpenSpec.upto digestPairsSpec)) digestPairsUptoCard

/-- THE SECOND FORM's CARD OF 'foundrylaw.DigestRoots'. -/
def digestRootsUptoCard : Claim7 := { stood := { row := digestRootsUptoRow, standIns := [], harness := (true, "866e1c98775d19bd76a3f8462236176689c548f5ee7e434fa6e63d0c4e59ce11"), looks := true }, kinds := [], alts := [], laidByText := true, laidKinds := [.data, .data, .data, .sentinel, .sentinel, .data, .data], laidTests := true, laidLooks := .later }
def DigestRootsUptoCardSaid : Prop := Claim7.holds Tryd.pinned (.plain (OpenSpec.upto digestRootsSpec)) digestRootsUptoCard

/-- THE SECOND FORM's CARD OF 'foundrylaw.DigestShows'. -/
def digestShowsUptoCard : Claim7 := { stood := { row := digestShowsUptoRow, standIns := [], harness := (true, "866e1c98775d19bd76a3f8462236176689c548f5ee7e434fa6e63d0c4e59ce11"), looks := true }, kinds := [], alts := [], laidByText := true, laidKinds := [.data, .data, .data, .sentinel, .sentinel, .data, .data], laidTests := true, laidLooks := .later }
def DigestShowsUptoCardSaid : Prop := Claim7.holds Tryd.pinned (.plain (OpenSpec.upto digestShowsSpec)) digestShowsUptoCard

/-- THE SECOND FORM's CARD OF 'foundrylaw.DigestSplits'. -/
def digestSplitsUptoCard : Claim7 := { stood := { row := digestSplitsUptoRow, standIns := [], harness := (true, "866e1c98775d19bd76a3f8462236176689c548f5ee7e434fa6e63d0c4e59ce11"), looks := true }, kinds := [], alts := [], laidByText := true, laidKinds := [.data, .data, .data, .sentinel, .sentinel, .data, .data], laidTests := true, laidLooks := .later }
def DigestSplitsUptoCardSaid : Prop := Claim7.holds Tryd.pinned (.plain (OpenSpec.upto digestSplitsSpec)) digestSplitsUptoCard

/-- THE SECOND FORM's CARD OF 'foundrylaw.DigestProofs'. -/
def digestProofsUptoCard : Claim7 := { stood := { row := digestProofsUptoRow, standIns := [], harness := (true, "866e1c98775d19bd76a3f8462236176689c548f5ee7e434fa6e63d0c4e59ce11"), looks := true }, kinds := [], alts := [], laidByText := true, laidKinds := [.data, .data, .data, .sentinel, .sentinel, .data, .data], laidTests := true, laidLooks := .later }
def DigestProofsUptoCardSaid : Prop := Claim7.holds Tryd.pinned (.plain (OpenSpec.upto digestProofsSpec)) digestProofsUptoCard

/-- THE SECOND FORM's CARD OF 'foundrylaw.DigestGuards'. -/
def digestGuardsUptoCard : Claim7 := { stood := { row := digestGuardsUptoRow, standIns := [], harness := (true, "866e1c98775d19bd76a3f8462236176689c548f5ee7e434fa6e63d0c4e59ce11"), looks := true }, kinds := [], alts := [], laidByText := true, laidKinds := [.data, .data, .data, .sentinel, .sentinel, .data, .data], laidTests := true, laidLooks := .later }
def DigestGuardsUptoCardSaid : Prop := Claim7.holds Tryd.pinned (.plain (OpenSpec.upto digestGuardsSpec)) digestGuardsUptoCard

/-- THE SECOND FORM's CARD OF 'foundrylaw.CasOldest'. -/
def casOldestUptoCard : Claim7 := { stood := { row := casOldestUptoRow, standIns := [], harness := (true, "866e1c98775d19bd76a3f8462236176689c548f5ee7e434fa6e63d0c4e59ce11"), looks := true }, kinds := [], alts := [], laidByText := true, laidKinds := [.data, .data], laidTests := true, laidLooks := .later }
def CasOldestUptoCardSaid : Prop := Claim7.holds Tryd.pinned (.plain (OpenSpec.upto casOldestSpec)) casOldestUptoCard

/-- THE SECOND FORM's CARD OF 'foundrylaw.CasKeeps'. -/
def casKeepsUptoCard : Claim7 := { stood := { row := casKeepsUptoRow, standIns := [], harness := (true, "866e1c98775d19bd76a3f8462236176689c548f5ee7e434fa6e63d0c4e59ce11"), looks := true }, kinds := [], alts := [], laidByText := true, laidKinds := [.data, .data], laidTests := true, laidLooks := .later }
def CasKeepsUptoCardSaid : Prop := Claim7.holds Tryd.pinned (.plain (OpenSpec.upto casKeepsSpec)) casKeepsUptoCard

/-- THE SECOND FORM's CARD OF 'foundrylaw.CasPlays'. -/
def casPlaysUptoCard : Claim7 := { stood := { row := casPlaysUptoRow, standIns := [], harness := (true, "866e1c98775d19bd76a3f8462236176689c548f5ee7e434fa6e63d0c4e59ce11"), looks := true }, kinds := [], alts := [], laidByText := true, laidKinds := [.data, .data], laidTests := true, laidLooks := .later }
def CasPlaysUptoCardSaid : Prop := Claim7.holds Tryd.pinned (.plain (OpenSpec.upto casPlaysSpec)) casPlaysUptoCard
end Rows
end Go.Proofs.YtjpmngjoohoddabDoor
