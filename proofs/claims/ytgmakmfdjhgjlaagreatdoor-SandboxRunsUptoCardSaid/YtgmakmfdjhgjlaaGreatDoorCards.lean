/-
  DERIVED. GIVEN WITH THE SEED: THE CARDS: each row of YtgmakmfdjhgjlaaGreatDoorRows.lean that lists a variable, with what it lists TIED to the program's text (the seventh form; the later family's looks); each row that meets fmt, with fmt's text TOLD by the authors' own Lean function (tested against real Go, not proved from fmt's source: count such statements apart). THE CARD IS WHAT COUNTS. Prove the row's statement (the work); the ties are given (YtgmakmfdjhgjlaaGreatDoorTie.lean); close each card by the builder's one call (the guide's Derived/Test/ToyasCard.lean, 'card_holds'). Laid BY PROGRAM, IN A SANDBOX (cutbox-door.mjs). By AI agents, Wed Nov 11 2026. No macro, syntax, notation, axiom, sorry.
-/
import Derived.Test.YtgmakmfdjhgjlaaGreatDoorRows
import GoSem.ClaimSeven
namespace Go.Proofs.YtgmakmfdjhgjlaaGreatDoor
namespace Rows

/-- THE TIED CARD OF 'foundrylaw.SandboxChecks'. -/
def sandboxChecksCard : Claim7 := { stood := { row := sandboxChecksRow, standIns := [], harness := (true, "7a4353f2450697911679563f7c9bcd1da980769e37792b4cdd30ccdc63e5b225"), looks := true }, kinds := [], alts := [], laidByText := true, laidKinds := [.data, .data, .data, .data, .sentinel, .sentinel, .data, .data, .pinned], laidTests := true, laidLooks := .later }
def SandboxChecksCardSaid : Prop := Claim7.holds Tryz.pinned (.plain (OpenSpec.ofChange sandboxChecksSpec)) sandboxChecksCard

/-- THE TIED CARD OF 'foundrylaw.SandboxRuns'. -/
def sandboxRunsCard : Claim7 := { stood := { row := sandboxRunsRow, standIns := [], harness := (true, "7a4353f2450697911679563f7c9bcd1da980769e37792b4cdd30ccdc63e5b225"), looks := true }, kinds := [], alts := [], laidByText := true, laidKinds := [.data, .data, .data, .data, .sentinel, .sentinel, .data, .data, .pinned], laidTests := true, laidLooks := .later }
def SandboxRunsCardSaid : Prop := Claim7.holds Tryz.pinned (.plain (OpenSpec.ofChange sandboxRunsSpec)) sandboxRunsCard

/-- THE TIED CARD OF 'foundrylaw.SandboxMore'. -/
def sandboxMoreCard : Claim7 := { stood := { row := sandboxMoreRow, standIns := [], harness := (true, "7a4353f2450697911679563f7c9bcd1da980769e37792b4cdd30ccdc63e5b225"), looks := true }, kinds := [], alts := [], laidByText := true, laidKinds := [.data, .data, .data, .data, .sentinel, .sentinel, .data, .data, .pinned], laidTests := true, laidLooks := .later }
def SandboxMoreCardSaid : Prop := Claim7.holds Tryz.pinned (.plain (OpenSpec.ofChange sandboxMoreSpec)) sandboxMoreCard

/-- THE TIED CARD OF 'foundrylaw.SandboxBlind'. -/
def sandboxBlindCard : Claim7 := { stood := { row := sandboxBlindRow, standIns := [], harness := (true, "7a4353f2450697911679563f7c9bcd1da980769e37792b4cdd30ccdc63e5b225"), looks := true }, kinds := [], alts := [], laidByText := true, laidKinds := [.data, .data, .data, .data, .sentinel, .sentinel, .data, .data, .pinned], laidTests := true, laidLooks := .later }
def SandboxBlindCardSaid : Prop := Claim7.holds Tryz.pinned (.plain (OpenSpec.ofChange sandboxBlindSpec)) sandboxBlindCard

/-- THE TIED CARD OF 'foundrylaw.SandboxMakes'. -/
def sandboxMakesCard : Claim7 := { stood := { row := sandboxMakesRow, standIns := [], harness := (true, "7a4353f2450697911679563f7c9bcd1da980769e37792b4cdd30ccdc63e5b225"), looks := true }, kinds := [], alts := [], laidByText := true, laidKinds := [.data, .data, .data, .data, .sentinel, .sentinel, .data, .data, .pinned], laidTests := true, laidLooks := .later }
def SandboxMakesCardSaid : Prop := Claim7.holds Tryz.pinned (.plain (OpenSpec.ofChange sandboxMakesSpec)) sandboxMakesCard

/-- THE TIED CARD OF 'foundrylaw.SandboxEnds'. -/
def sandboxEndsCard : Claim7 := { stood := { row := sandboxEndsRow, standIns := [], harness := (true, "7a4353f2450697911679563f7c9bcd1da980769e37792b4cdd30ccdc63e5b225"), looks := true }, kinds := [], alts := [], laidByText := true, laidKinds := [.data, .data, .data, .data, .sentinel, .sentinel, .data, .data, .pinned], laidTests := true, laidLooks := .later }
def SandboxEndsCardSaid : Prop := Claim7.holds Tryz.pinned (.plain (OpenSpec.ofChange sandboxEndsSpec)) sandboxEndsCard

/-- THE TIED CARD OF 'foundrylaw.SandboxJoins'. -/
def sandboxJoinsCard : Claim7 := { stood := { row := sandboxJoinsRow, standIns := [], harness := (true, "7a4353f2450697911679563f7c9bcd1da980769e37792b4cdd30ccdc63e5b225"), looks := true }, kinds := [], alts := [], laidByText := true, laidKinds := [.data, .data, .data, .data, .sentinel, .sentinel, .data, .data, .pinned], laidTests := true, laidLooks := .later }
def SandboxJoinsCardSaid : Prop := Claim7.holds Tryz.pinned (.plain (OpenSpec.ofChange sandboxJoinsSpec)) sandboxJoinsCard

/-- THE SECOND FORM's CARD OF 'foundrylaw.SandboxChecks'. -/
def sandboxChecksUptoCard : Claim7 := { stood := { row := sandboxChecksUptoRow, standIns := [], harness := (true, "7a4353f2450697911679563f7c9bcd1da980769e37792b4cdd30ccdc63e5b225"), looks := true }, kinds := [], alts := [], laidByText := true, laidKinds := [.data, .data, .data, .data, .sentinel, .sentinel, .data, .data, .pinned], laidTests := true, laidLooks := .later }
def SandboxChecksUptoCardSaid : Prop := Claim7.holds Tryz.pinned (.plain (OpenSpec.upto sandboxChecksSpec)) sandboxChecksUptoCard

/-- THE SECOND FORM's CARD OF 'foundrylaw.SandboxRuns'. -/
def sandboxRunsUptoCard : Claim7 := { stood := { row := sandboxRunsUptoRow, standIns := [], harness := (true, "7a4353f2450697911679563f7c9bcd1da980769e37792b4cdd30ccdc63e5b225"), looks := true }, kinds := [], alts := [], laidByText := true, laidKinds := [.data, .data, .data, .data, .sentinel, .sentinel, .data, .data, .pinned], laidTests := true, laidLooks := .later }
def SandboxRunsUptoCardSaid : Prop := Claim7.holds Tryz.pinned (.plain (OpenSpec.upto sandboxRunsSpec)) sandboxRunsUptoCard

/-- THE SECOND FORM's CARD OF 'foundrylaw.SandboxMore'. -/
def sandboxMoreUptoCard : Claim7 := { stood := { row := sandboxMoreUptoRow, standIns := [], harness := (true, "7a4353f2450697911679563f7c9bcd1da980769e37792b4cdd30ccdc63e5b225"), looks := true }, kinds := [], alts := [], laidByText := true, laidKinds := [.data, .data, .data, .data, .sentinel, .sentinel, .data, .data, .pinned], laidTests := true, laidLooks := .later }
def SandboxMoreUptoCardSaid : Prop := Claim7.holds Tryz.pinned (.plain (OpenSpec.upto sandboxMoreSpec)) sandboxMoreUptoCard

/-- THE SECOND FORM's CARD OF 'foundrylaw.SandboxBlind'. -/
def sandboxBlindUptoCard : Claim7 := { stood := { row := sandboxBlindUptoRow, standIns := [], harness := (true, "7a4353f2450697911679563f7c9bcd1da980769e37792b4cdd30ccdc63e5b225"), looks := true }, kinds := [], alts := [], laidByText := true, laidKinds := [.data, .data, .data, .data, .sentinel, .sentinel, .data, .data, .pinned], laidTests := true, laidLooks := .later }
def SandboxBlindUptoCardSaid : Prop := Claim7.holds Tryz.pinned (.plain (OpenSpec.upto sandboxBlindSpec)) sandboxBlindUptoCard

/-- THE SECOND FORM's CARD OF 'foundrylaw.SandboxMakes'. -/
def sandboxMakesUptoCard : Claim7 := { stood := { row := sandboxMakesUptoRow, standIns := [], harness := (true, "7a4353f2450697911679563f7c9bcd1da980769e37792b4cdd30ccdc63e5b225"), looks := true }, kinds := [], alts := [], laidByText := true, laidKinds := [.data, .data, .data, .data, .sentinel, .sentinel, .data, .data, .pinned], laidTests := true, laidLooks := .later }
def SandboxMakesUptoCardSaid : Prop := Claim7.holds Tryz.pinned (.plain (OpenSpec.upto sandboxMakesSpec)) sandboxMakesUptoCard

/-- THE SECOND FORM's CARD OF 'foundrylaw.SandboxEnds'. -/
def sandboxEndsUptoCard : Claim7 := { stood := { row := sandboxEndsUptoRow, standIns := [], harness := (true, "7a4353f2450697911679563f7c9bcd1da980769e37792b4cdd30ccdc63e5b225"), looks := true }, kinds := [], alts := [], laidByText := true, laidKinds := [.data, .data, .data, .data, .sentinel, .sentinel, .data, .data, .pinned], laidTests := true, laidLooks := .later }
def SandboxEndsUptoCardSaid : Prop := Claim7.holds Tryz.pinned (.plain (OpenSpec.upto sandboxEndsSpec)) sandboxEndsUptoCard

/-- THE SECOND FORM's CARD OF 'foundrylaw.SandboxJoins'. -/
def sandboxJoinsUptoCard : Claim7 := { stood := { row := sandboxJoinsUptoRow, standIns := [], harness := (true, "7a4353f2450697911679563f7c9bcd1da980769e37792b4cdd30ccdc63e5b225"), looks := true }, kinds := [], alts := [], laidByText := true, laidKinds := [.data, .data, .data, .data, .sentinel, .sentinel, .data, .data, .pinned], laidTests := true, laidLooks := .later }
def SandboxJoinsUptoCardSaid : Prop := Claim7.holds Tryz.pinned (.plain (OpenSpec.upto sandboxJoinsSpec)) sandboxJoinsUptoCard
end Rows
end Go.Proofs.YtgmakmfdjhgjlaaGreatDoor
