/-
  DERIVED. GIVEN WITH THE SEED: THE CARDS: each row of YtnfalbdnkgaelaaDoorRows.lean that lists a variable, with what it lists TIED to the program's text (the seventh form; the later family's looks); each row that meets fmt, with fmt's text TOLD by the authors' own Lean function (tested against real Go, not proved from fmt's source: count such statements apart). THE CARD IS WHAT COUNTS. Prove the row's statement (the work); the ties are given (YtnfalbdnkgaelaaDoorTie.lean); close each card by the builder's one call (the guide's Derived/Test/ToyasCard.lean, 'card_holds'). Laid BY PROGRAM, IN A SANDBOX (cutbox-door.mjs). By AI agents, Wed Nov 11 2026. No macro, syntax, notation, axiom, sorry.
-/
import Derived.Test.YtnfalbdnkgaelaaDoorRows
import GoSem.ClaimSeven
namespace Go.Proofs.YtnfalbdnkgaelaaDoor
namespace Rows

/-- THE TIED CARD OF 'foundrylaw.GraphOrders'. -/
def graphOrdersCard : Claim7 := { stood := { row := graphOrdersRow, standIns := [], harness := (true, "57e28c96a8f82103e3311094efa8c11e89b5b8ef2b0f13bb032c4a230907d96c"), looks := true }, kinds := [], alts := [], laidByText := true, laidKinds := [.data, .pinned], laidTests := true, laidLooks := .later }
def GraphOrdersCardSaid : Prop := Claim7.holds Tryd.pinned (.plain (OpenSpec.ofChange graphOrdersSpec)) graphOrdersCard

/-- THE TIED CARD OF 'foundrylaw.GraphCones'. -/
def graphConesCard : Claim7 := { stood := { row := graphConesRow, standIns := [], harness := (true, "57e28c96a8f82103e3311094efa8c11e89b5b8ef2b0f13bb032c4a230907d96c"), looks := true }, kinds := [], alts := [], laidByText := true, laidKinds := [.data, .pinned], laidTests := true, laidLooks := .later }
def GraphConesCardSaid : Prop := Claim7.holds Tryd.pinned (.plain (OpenSpec.ofChange graphConesSpec)) graphConesCard

/-- THE TIED CARD OF 'foundrylaw.GraphUsers'. -/
def graphUsersCard : Claim7 := { stood := { row := graphUsersRow, standIns := [], harness := (true, "57e28c96a8f82103e3311094efa8c11e89b5b8ef2b0f13bb032c4a230907d96c"), looks := true }, kinds := [], alts := [], laidByText := true, laidKinds := [.data, .pinned], laidTests := true, laidLooks := .later }
def GraphUsersCardSaid : Prop := Claim7.holds Tryd.pinned (.plain (OpenSpec.ofChange graphUsersSpec)) graphUsersCard

/-- THE TIED CARD OF 'foundrylaw.GraphDepths'. -/
def graphDepthsCard : Claim7 := { stood := { row := graphDepthsRow, standIns := [], harness := (true, "57e28c96a8f82103e3311094efa8c11e89b5b8ef2b0f13bb032c4a230907d96c"), looks := true }, kinds := [], alts := [], laidByText := true, laidKinds := [.data, .pinned], laidTests := true, laidLooks := .later }
def GraphDepthsCardSaid : Prop := Claim7.holds Tryd.pinned (.plain (OpenSpec.ofChange graphDepthsSpec)) graphDepthsCard

/-- THE TIED CARD OF 'foundrylaw.GraphTurns'. -/
def graphTurnsCard : Claim7 := { stood := { row := graphTurnsRow, standIns := [], harness := (true, "57e28c96a8f82103e3311094efa8c11e89b5b8ef2b0f13bb032c4a230907d96c"), looks := true }, kinds := [], alts := [], laidByText := true, laidKinds := [.data, .pinned], laidTests := true, laidLooks := .later }
def GraphTurnsCardSaid : Prop := Claim7.holds Tryd.pinned (.plain (OpenSpec.ofChange graphTurnsSpec)) graphTurnsCard

/-- THE TIED CARD OF 'foundrylaw.GraphChecks'. -/
def graphChecksCard : Claim7 := { stood := { row := graphChecksRow, standIns := [], harness := (true, "57e28c96a8f82103e3311094efa8c11e89b5b8ef2b0f13bb032c4a230907d96c"), looks := true }, kinds := [], alts := [], laidByText := true, laidKinds := [.data, .pinned], laidTests := true, laidLooks := .later }
def GraphChecksCardSaid : Prop := Claim7.holds Tryd.pinned (.plain (OpenSpec.ofChange graphChecksSpec)) graphChecksCard

/-- THE TIED CARD OF 'foundrylaw.GraphCloses'. -/
def graphClosesCard : Claim7 := { stood := { row := graphClosesRow, standIns := [], harness := (true, "57e28c96a8f82103e3311094efa8c11e89b5b8ef2b0f13bb032c4a230907d96c"), looks := true }, kinds := [], alts := [], laidByText := true, laidKinds := [.data, .pinned], laidTests := true, laidLooks := .later }
def GraphClosesCardSaid : Prop := Claim7.holds Tryd.pinned (.plain (OpenSpec.ofChange graphClosesSpec)) graphClosesCard

/-- THE TIED CARD OF 'foundrylaw.GraphCircles'. -/
def graphCirclesCard : Claim7 := { stood := { row := graphCirclesRow, standIns := [], harness := (true, "57e28c96a8f82103e3311094efa8c11e89b5b8ef2b0f13bb032c4a230907d96c"), looks := true }, kinds := [], alts := [], laidByText := true, laidKinds := [.data, .pinned], laidTests := true, laidLooks := .later }
def GraphCirclesCardSaid : Prop := Claim7.holds Tryd.pinned (.plain (OpenSpec.ofChange graphCirclesSpec)) graphCirclesCard

/-- THE TIED CARD OF 'foundrylaw.GraphRounds'. -/
def graphRoundsCard : Claim7 := { stood := { row := graphRoundsRow, standIns := [], harness := (true, "57e28c96a8f82103e3311094efa8c11e89b5b8ef2b0f13bb032c4a230907d96c"), looks := true }, kinds := [], alts := [], laidByText := true, laidKinds := [.data, .pinned], laidTests := true, laidLooks := .later }
def GraphRoundsCardSaid : Prop := Claim7.holds Tryd.pinned (.plain (OpenSpec.ofChange graphRoundsSpec)) graphRoundsCard

/-- THE SECOND FORM's CARD OF 'foundrylaw.GraphOrders'. -/
def graphOrdersUptoCard : Claim7 := { stood := { row := graphOrdersUptoRow, standIns := [], harness := (true, "57e28c96a8f82103e3311094efa8c11e89b5b8ef2b0f13bb032c4a230907d96c"), looks := true }, kinds := [], alts := [], laidByText := true, laidKinds := [.data, .pinned], laidTests := true, laidLooks := .later }
def GraphOrdersUptoCardSaid : Prop := Claim7.holds Tryd.pinned (.plain (OpenSpec.upto graphOrdersSpec)) graphOrdersUptoCard

/-- THE SECOND FORM's CARD OF 'foundrylaw.GraphCones'. -/
def graphConesUptoCard : Claim7 := { stood := { row := graphConesUptoRow, standIns := [], harness := (true, "57e28c96a8f82103e3311094efa8c11e89b5b8ef2b0f13bb032c4a230907d96c"), looks := true }, kinds := [], alts := [], laidByText := true, laidKinds := [.data, .pinned], laidTests := true, laidLooks := .later }
def GraphConesUptoCardSaid : Prop := Claim7.holds Tryd.pinned (.plain (OpenSpec.upto graphConesSpec)) graphConesUptoCard

/-- THE SECOND FORM's CARD OF 'foundrylaw.GraphUsers'. -/
def graphUsersUptoCard : Claim7 := { stood := { row := graphUsersUptoRow, standIns := [], harness := (true, "57e28c96a8f82103e3311094efa8c11e89b5b8ef2b0f13bb032c4a230907d96c"), looks := true }, kinds := [], alts := [], laidByText := true, laidKinds := [.data, .pinned], laidTests := true, laidLooks := .later }
def GraphUsersUptoCardSaid : Prop := Claim7.holds Tryd.pinned (.plain (OpenSpec.upto graphUsersSpec)) graphUsersUptoCard

/-- THE SECOND FORM's CARD OF 'foundrylaw.GraphDepths'. -/
def graphDepthsUptoCard : Claim7 := { stood := { row := graphDepthsUptoRow, standIns := [], harness := (true, "57e28c96a8f82103e3311094efa8c11e89b5b8ef2b0f13bb032c4a230907d96c"), looks := true }, kinds := [], alts := [], laidByText := true, laidKinds := [.data, .pinned], laidTests := true, laidLooks := .later }
def GraphDepthsUptoCardSaid : Prop := Claim7.holds Tryd.pinned (.plain (OpenSpec.upto graphDepthsSpec)) graphDepthsUptoCard

/-- THE SECOND FORM's CARD OF 'foundrylaw.GraphTurns'. -/
def graphTurnsUptoCard : Claim7 := { stood := { row := graphTurnsUptoRow, standIns := [], harness := (true, "57e28c96a8f82103e3311094efa8c11e89b5b8ef2b0f13bb032c4a230907d96c"), looks := true }, kinds := [], alts := [], laidByText := true, laidKinds := [.data, .pinned], laidTests := true, laidLooks := .later }
def GraphTurnsUptoCardSaid : Prop := Claim7.holds Tryd.pinned (.plain (OpenSpec.upto graphTurnsSpec)) graphTurnsUptoCard

/-- THE SECOND FORM's CARD OF 'foundrylaw.GraphChecks'. -/
def graphChecksUptoCard : Claim7 := { stood := { row := graphChecksUptoRow, standIns := [], harness := (true, "57e28c96a8f82103e3311094efa8c11e89b5b8ef2b0f13bb032c4a230907d96c"), looks := true }, kinds := [], alts := [], laidByText := true, laidKinds := [.data, .pinned], laidTests := true, laidLooks := .later }
def GraphChecksUptoCardSaid : Prop := Claim7.holds Tryd.pinned (.plain (OpenSpec.upto graphChecksSpec)) graphChecksUptoCard

/-- THE SECOND FORM's CARD OF 'foundrylaw.GraphCloses'. -/
def graphClosesUptoCard : Claim7 := { stood := { row := graphClosesUptoRow, standIns := [], harness := (true, "57e28c96a8f82103e3311094efa8c11e89b5b8ef2b0f13bb032c4a230907d96c"), looks := true }, kinds := [], alts := [], laidByText := true, laidKinds := [.data, .pinned], laidTests := true, laidLooks := .later }
def GraphClosesUptoCardSaid : Prop := Claim7.holds Tryd.pinned (.plain (OpenSpec.upto graphClosesSpec)) graphClosesUptoCard

/-- THE SECOND FORM's CARD OF 'foundrylaw.GraphCircles'. -/
def graphCirclesUptoCard : Claim7 := { stood := { row := graphCirclesUptoRow, standIns := [], harness := (true, "57e28c96a8f82103e3311094efa8c11e89b5b8ef2b0f13bb032c4a230907d96c"), looks := true }, kinds := [], alts := [], laidByText := true, laidKinds := [.data, .pinned], laidTests := true, laidLooks := .later }
def GraphCirclesUptoCardSaid : Prop := Claim7.holds Tryd.pinned (.plain (OpenSpec.upto graphCirclesSpec)) graphCirclesUptoCard

/-- THE SECOND FORM's CARD OF 'foundrylaw.GraphRounds'. -/
def graphRoundsUptoCard : Claim7 := { stood := { row := graphRoundsUptoRow, standIns := [], harness := (true, "57e28c96a8f82103e3311094efa8c11e89b5b8ef2b0f13bb032c4a230907d96c"), looks := true }, kinds := [], alts := [], laidByText := true, laidKinds := [.data, .pinned], laidTests := true, laidLooks := .later }
def GraphRoundsUptoCardSaid : Prop := Claim7.holds Tryd.pinned (.plain (OpenSpec.upto graphRoundsSpec)) graphRoundsUptoCard
end Rows
end Go.Proofs.YtnfalbdnkgaelaaDoor
