/-
  DERIVED. GIVEN WITH THE SEED: THE CARDS: each row of YtfpdfpdlekngfaaDoorRows.lean that lists a variable, with what it lists TIED to the program's text (the seventh form; the later family's looks); each row that meets fmt, with fmt's text TOLD by the authors' own Lean function (tested against real Go, not proved from fmt's source: count such statements apart). THE CARD IS WHAT COUNTS. Prove the row's statement (the work); the ties are given (YtfpdfpdlekngfaaDoorTie.lean); close each card by the builder's one call (the guide's Derived/Test/ToyasCard.lean, 'card_holds'). Laid BY PROGRAM, IN A SANDBOX (cutbox-door.mjs). By AI agents, Wed Nov 11 2026. No macro, syntax, notation, axiom, sorry.
-/
import Derived.Test.YtfpdfpdlekngfaaDoorRows
import GoSem.ClaimSeven
namespace Go.Proofs.YtfpdfpdlekngfaaDoor
namespace Rows

/-- THE TIED CARD OF 'foundrylaw.CasOldest'. -/
def casOldestCard : Claim7 := { stood := { row := casOldestRow, standIns := [], harness := (true, "e4b5eb2bc23fb38eb9088b4b7ab18de21404e2fd56f5e6282c4513a2f7384391"), looks := false }, kinds := [], alts := [], laidByText := true, laidKinds := [.data, .data], laidTests := true, laidLooks := .later }
def CasOldestCardSaid : Prop := Claim7.holds Tryd.pinned (.plain (OpenSpec.ofChange casOldestSpec)) casOldestCard

/-- THE TIED CARD OF 'foundrylaw.CasKeeps'. -/
def casKeepsCard : Claim7 := { stood := { row := casKeepsRow, standIns := [], harness := (true, "e4b5eb2bc23fb38eb9088b4b7ab18de21404e2fd56f5e6282c4513a2f7384391"), looks := false }, kinds := [], alts := [], laidByText := true, laidKinds := [.data, .data], laidTests := true, laidLooks := .later }
def CasKeepsCardSaid : Prop := Claim7.holds Tryd.pinned (.plain (OpenSpec.ofChange casKeepsSpec)) casKeepsCard

/-- THE TIED CARD OF 'foundrylaw.CasPlays'. -/
def casPlaysCard : Claim7 := { stood := { row := casPlaysRow, standIns := [], harness := (true, "e4b5eb2bc23fb38eb9088b4b7ab18de21404e2fd56f5e6282c4513a2f7384391"), looks := false }, kinds := [], alts := [], laidByText := true, laidKinds := [.data, .data], laidTests := true, laidLooks := .later }
def CasPlaysCardSaid : Prop := Claim7.holds Tryd.pinned (.plain (OpenSpec.ofChange casPlaysSpec)) casPlaysCard

/-- THE SECOND FORM's CARD OF 'foundrylaw.CasOldest'. -/
def casOldestUptoCard : Claim7 := { stood := { row := casOldestUptoRow, standIns := [], harness := (true, "e4b5eb2bc23fb38eb9088b4b7ab18de21404e2fd56f5e6282c4513a2f7384391"), looks := false }, kinds := [], alts := [], laidByText := true, laidKinds := [.data, .data], laidTests := true, laidLooks := .later }
def CasOldestUptoCardSaid : Prop := Claim7.holds Tryd.pinned (.plain (OpenSpec.upto casOldestSpec)) casOldestUptoCard

/-- THE SECOND FORM's CARD OF 'foundrylaw.CasKeeps'. -/
def casKeepsUptoCard : Claim7 := { stood := { row := casKeepsUptoRow, standIns := [], harness := (true, "e4b5eb2bc23fb38eb9088b4b7ab18de21404e2fd56f5e6282c4513a2f7384391"), looks := false }, kinds := [], alts := [], laidByText := true, laidKinds := [.data, .data], laidTests := true, laidLooks := .later }
def CasKeepsUptoCardSaid : Prop := Claim7.holds Tryd.pinned (.plain (OpenSpec.upto casKeepsSpec)) casKeepsUptoCard

/-- THE SECOND FORM's CARD OF 'foundrylaw.CasPlays'. -/
def casPlaysUptoCard : Claim7 := { stood := { row := casPlaysUptoRow, standIns := [], harness := (true, "e4b5eb2bc23fb38eb9088b4b7ab18de21404e2fd56f5e6282c4513a2f7384391"), looks := false }, kinds := [], alts := [], laidByText := true, laidKinds := [.data, .data], laidTests := true, laidLooks := .later }
def CasPlaysUptoCardSaid : Prop := Claim7.holds Tryd.pinned (.plain (OpenSpec.upto casPlaysSpec)) casPlaysUptoCard
end Rows
end Go.Proofs.YtfpdfpdlekngfaaDoor
