/-
  DERIVED. GIVEN WITH THE SEED: THE CARDS: each row of YtkgmbnjdeokdkaaDoorRows.lean that lists a variable, with what it lists TIED to the program's text (the seventh form; the later family's looks); each row that meets fmt, with fmt's text TOLD by the authors' own Lean function (tested against real Go, not proved from fmt's source: count such statements apart). THE CARD IS WHAT COUNTS. Prove the row's statement (the work); the ties are given (YtkgmbnjdeokdkaaDoorTie.lean); close each card by the builder's one call (the guide's Derived/Test/ToyasCard.lean, 'card_holds'). Laid BY PROGRAM, IN A SANDBOX (cutbox-door.mjs). By AI agents, Wed Nov 11 2026. No macro, syntax, notation, axiom, sorry.
-/
import Derived.Test.YtkgmbnjdeokdkaaDoorRows
import GoSem.ClaimSeven
namespace Go.Proofs.YtkgmbnjdeokdkaaDoor
namespace Rows

/-- THE TIED CARD OF 'foundrylaw.TokenSplits'. -/
def tokenSplitsCard : Claim7 := { stood := { row := tokenSplitsRow, standIns := [], harness := (true, "69fab49070810adadff047cabd61b84b6067b453d06ecfd334bb0cd16b39b75d"), looks := true }, kinds := [], alts := [], laidByText := true, laidKinds := [.widerDeep, .widerDeep], laidTests := true, laidLooks := .later }
def TokenSplitsCardSaid : Prop := Claim7.holds Tryd.pinned (.plain (OpenSpec.ofChange tokenSplitsSpec)) tokenSplitsCard

/-- THE TIED CARD OF 'foundrylaw.TokenLevels'. -/
def tokenLevelsCard : Claim7 := { stood := { row := tokenLevelsRow, standIns := [], harness := (true, "69fab49070810adadff047cabd61b84b6067b453d06ecfd334bb0cd16b39b75d"), looks := true }, kinds := [], alts := [], laidByText := true, laidKinds := [.widerDeep, .widerDeep], laidTests := true, laidLooks := .later }
def TokenLevelsCardSaid : Prop := Claim7.holds Tryd.pinned (.plain (OpenSpec.ofChange tokenLevelsSpec)) tokenLevelsCard

/-- THE TIED CARD OF 'foundrylaw.TokenStands'. -/
def tokenStandsCard : Claim7 := { stood := { row := tokenStandsRow, standIns := [], harness := (true, "69fab49070810adadff047cabd61b84b6067b453d06ecfd334bb0cd16b39b75d"), looks := true }, kinds := [], alts := [], laidByText := true, laidKinds := [.widerDeep, .widerDeep], laidTests := true, laidLooks := .later }
def TokenStandsCardSaid : Prop := Claim7.holds Tryd.pinned (.plain (OpenSpec.ofChange tokenStandsSpec)) tokenStandsCard

/-- THE TIED CARD OF 'foundrylaw.TokenEmpty'. -/
def tokenEmptyCard : Claim7 := { stood := { row := tokenEmptyRow, standIns := [], harness := (true, "69fab49070810adadff047cabd61b84b6067b453d06ecfd334bb0cd16b39b75d"), looks := true }, kinds := [], alts := [], laidByText := true, laidKinds := [.widerDeep, .widerDeep], laidTests := true, laidLooks := .later }
def TokenEmptyCardSaid : Prop := Claim7.holds Tryd.pinned (.plain (OpenSpec.ofChange tokenEmptySpec)) tokenEmptyCard

/-- THE SECOND FORM's CARD OF 'foundrylaw.TokenSplits'. -/
def tokenSplitsUptoCard : Claim7 := { stood := { row := tokenSplitsUptoRow, standIns := [], harness := (true, "69fab49070810adadff047cabd61b84b6067b453d06ecfd334bb0cd16b39b75d"), looks := true }, kinds := [], alts := [], laidByText := true, laidKinds := [.widerDeep, .widerDeep], laidTests := true, laidLooks := .later }
def TokenSplitsUptoCardSaid : Prop := Claim7.holds Tryd.pinned (.plain (OpenSpec.upto tokenSplitsSpec)) tokenSplitsUptoCard

/-- THE SECOND FORM's CARD OF 'foundrylaw.TokenLevels'. -/
def tokenLevelsUptoCard : Claim7 := { stood := { row := tokenLevelsUptoRow, standIns := [], harness := (true, "69fab49070810adadff047cabd61b84b6067b453d06ecfd334bb0cd16b39b75d"), looks := true }, kinds := [], alts := [], laidByText := true, laidKinds := [.widerDeep, .widerDeep], laidTests := true, laidLooks := .later }
def TokenLevelsUptoCardSaid : Prop := Claim7.holds Tryd.pinned (.plain (OpenSpec.upto tokenLevelsSpec)) tokenLevelsUptoCard

/-- THE SECOND FORM's CARD OF 'foundrylaw.TokenStands'. -/
def tokenStandsUptoCard : Claim7 := { stood := { row := tokenStandsUptoRow, standIns := [], harness := (true, "69fab49070810adadff047cabd61b84b6067b453d06ecfd334bb0cd16b39b75d"), looks := true }, kinds := [], alts := [], laidByText := true, laidKinds := [.widerDeep, .widerDeep], laidTests := true, laidLooks := .later }
def TokenStandsUptoCardSaid : Prop := Claim7.holds Tryd.pinned (.plain (OpenSpec.upto tokenStandsSpec)) tokenStandsUptoCard

/-- THE SECOND FORM's CARD OF 'foundrylaw.TokenEmpty'. -/
def tokenEmptyUptoCard : Claim7 := { stood := { row := tokenEmptyUptoRow, standIns := [], harness := (true, "69fab49070810adadff047cabd61b84b6067b453d06ecfd334bb0cd16b39b75d"), looks := true }, kinds := [], alts := [], laidByText := true, laidKinds := [.widerDeep, .widerDeep], laidTests := true, laidLooks := .later }
def TokenEmptyUptoCardSaid : Prop := Claim7.holds Tryd.pinned (.plain (OpenSpec.upto tokenEmptySpec)) tokenEmptyUptoCard
end Rows
end Go.Proofs.YtkgmbnjdeokdkaaDoor
