/-
  DERIVED. GIVEN WITH THE SEED: THE CARDS: each row of YtjpmngjoohoddaaDoorRows.lean that lists a variable, with what it lists TIED to the program's text (the seventh form; the later family's looks); each row that meets fmt, with fmt's text TOLD by the authors' own Lean function (tested against real Go, not proved from fmt's source: count such statements apart). THE CARD IS WHAT COUNTS. Prove the row's statement (the work); the ties are given (YtjpmngjoohoddaaDoorTie.lean); close each card by the builder's one call (the guide's Derived/Test/ToyasCard.lean, 'card_holds'). Laid BY PROGRAM, IN A SANDBOX (cutbox-door.mjs). By AI agents, Wed Nov 11 2026. No macro, syntax, notation, axiom, sorry.
-/
import Derived.Test.YtjpmngjoohoddaaDoorRows
import GoSem.ClaimSeven
namespace Go.Proofs.YtjpmngjoohoddaaDoor
namespace Rows

/-- THE TIED CARD OF 'foundrylaw.WirePaths'. -/
def wirePathsCard : Claim7 := { stood := { row := wirePathsRow, standIns := [], harness := (true, "91d1d00635ae094f76608483df1371c72a741d4b1cfd84a774250639a117d4a2"), looks := true }, kinds := [], alts := [], laidByText := true, laidKinds := [.data, .pinned], laidTests := true, laidLooks := .later }
def WirePathsCardSaid : Prop := Claim7.holds Tryd.pinned (.plain (OpenSpec.ofChange wirePathsSpec)) wirePathsCard

/-- THE TIED CARD OF 'foundrylaw.WireActions'. -/
def wireActionsCard : Claim7 := { stood := { row := wireActionsRow, standIns := [], harness := (true, "91d1d00635ae094f76608483df1371c72a741d4b1cfd84a774250639a117d4a2"), looks := true }, kinds := [], alts := [], laidByText := true, laidKinds := [.data, .pinned], laidTests := true, laidLooks := .later }
def WireActionsCardSaid : Prop := Claim7.holds Tryd.pinned (.plain (OpenSpec.ofChange wireActionsSpec)) wireActionsCard

/-- THE TIED CARD OF 'foundrylaw.WireReadActions'. -/
def wireReadActionsCard : Claim7 := { stood := { row := wireReadActionsRow, standIns := [], harness := (true, "91d1d00635ae094f76608483df1371c72a741d4b1cfd84a774250639a117d4a2"), looks := true }, kinds := [], alts := [], laidByText := true, laidKinds := [.data, .pinned], laidTests := true, laidLooks := .later }
def WireReadActionsCardSaid : Prop := Claim7.holds Tryd.pinned (.plain (OpenSpec.ofChange wireReadActionsSpec)) wireReadActionsCard

/-- THE TIED CARD OF 'foundrylaw.WireBackAction'. -/
def wireBackActionCard : Claim7 := { stood := { row := wireBackActionRow, standIns := [], harness := (true, "91d1d00635ae094f76608483df1371c72a741d4b1cfd84a774250639a117d4a2"), looks := true }, kinds := [], alts := [], laidByText := true, laidKinds := [.data, .pinned], laidTests := true, laidLooks := .later }
def WireBackActionCardSaid : Prop := Claim7.holds Tryd.pinned (.plain (OpenSpec.ofChange wireBackActionSpec)) wireBackActionCard

/-- THE SECOND FORM's CARD OF 'foundrylaw.WirePaths'. -/
def wirePathsUptoCard : Claim7 := { stood := { row := wirePathsUptoRow, standIns := [], harness := (true, "91d1d00635ae094f76608483df1371c72a741d4b1cfd84a774250639a117d4a2"), looks := true }, kinds := [], alts := [], laidByText := true, laidKinds := [.data, .pinned], laidTests := true, laidLooks := .later }
def WirePathsUptoCardSaid : Prop := Claim7.holds Tryd.pinned (.plain (OpenSpec.upto wirePathsSpec)) wirePathsUptoCard

/-- THE SECOND FORM's CARD OF 'foundrylaw.WireActions'. -/
def wireActionsUptoCard : Claim7 := { stood := { row := wireActionsUptoRow, standIns := [], harness := (true, "91d1d00635ae094f76608483df1371c72a741d4b1cfd84a774250639a117d4a2"), looks := true }, kinds := [], alts := [], laidByText := true, laidKinds := [.data, .pinned], laidTests := true, laidLooks := .later }
def WireActionsUptoCardSaid : Prop := Claim7.holds Tryd.pinned (.plain (OpenSpec.upto wireActionsSpec)) wireActionsUptoCard

/-- THE SECOND FORM's CARD OF 'foundrylaw.WireReadActions'. -/
def wireReadActionsUptoCard : Claim7 := { stood := { row := wireReadActionsUptoRow, standIns := [], harness := (true, "91d1d00635ae094f76608483df1371c72a741d4b1cfd84a774250639a117d4a2"), looks := true }, kinds := [], alts := [], laidByText := true, laidKinds := [.data, .pinned], laidTests := true, laidLooks := .later }
def WireReadActionsUptoCardSaid : Prop := Claim7.holds Tryd.pinned (.plain (OpenSpec.upto wireReadActionsSpec)) wireReadActionsUptoCard

/-- THE SECOND FORM's CARD OF 'foundrylaw.WireBackAction'. -/
def wireBackActionUptoCard : Claim7 := { stood := { row := wireBackActionUptoRow, standIns := [], harness := (true, "91d1d00635ae094f76608483df1371c72a741d4b1cfd84a774250639a117d4a2"), looks := true }, kinds := [], alts := [], laidByText := true, laidKinds := [.data, .pinned], laidTests := true, laidLooks := .later }
def WireBackActionUptoCardSaid : Prop := Claim7.holds Tryd.pinned (.plain (OpenSpec.upto wireBackActionSpec)) wireBackActionUptoCard
end Rows
end Go.Proofs.YtjpmngjoohoddaaDoor
