/-
  DERIVED. GIVEN WITH THE SEED: THE CARDS: each row of YtonjhfeabphaaaaGreatDoorRows.lean that lists a variable, with what it lists TIED to the program's text (the seventh form; the later family's looks); each row that meets fmt, with fmt's text TOLD by the authors' own Lean function (tested against real Go, not proved from fmt's source: count such statements apart). THE CARD IS WHAT COUNTS. Prove the row's statement (the work); the ties are given (YtonjhfeabphaaaaGreatDoorTie.lean); close each card by the builder's one call (the guide's Derived/Test/ToyasCard.lean, 'card_holds'). Laid BY PROGRAM, IN A SANDBOX (cutbox-door.mjs). By AI agents, Wed Nov 11 2026. No macro, syntax, notation, axiom, sorry.
-/
import Derived.Test.YtonjhfeabphaaaaGreatDoorRows
import GoSem.ClaimSeven
namespace Go.Proofs.YtonjhfeabphaaaaGreatDoor
namespace Rows

/-- THE TIED CARD OF 'foundrylaw.SyntaxParses'. -/
def syntaxParsesCard : Claim7 := { stood := { row := syntaxParsesRow, standIns := [], harness := (true, "f9e61dff33059ffb0ed24155aa529b36e0b48b119fda42e672aea190ced15415"), looks := true }, kinds := [], alts := [], laidByText := true, laidKinds := [.data, .data, .data, .widerDeep, .widerDeep], laidTests := true, laidLooks := .later }
def SyntaxParsesCardSaid : Prop := Claim7.holds Tryz.pinned (.plain (OpenSpec.ofChange syntaxParsesSpec)) syntaxParsesCard

/-- THE TIED CARD OF 'foundrylaw.SyntaxWrites'. -/
def syntaxWritesCard : Claim7 := { stood := { row := syntaxWritesRow, standIns := [], harness := (true, "f9e61dff33059ffb0ed24155aa529b36e0b48b119fda42e672aea190ced15415"), looks := true }, kinds := [], alts := [], laidByText := true, laidKinds := [.data, .data, .data, .widerDeep, .widerDeep], laidTests := true, laidLooks := .later }
def SyntaxWritesCardSaid : Prop := Claim7.holds Tryz.pinned (.plain (OpenSpec.ofChange syntaxWritesSpec)) syntaxWritesCard

/-- THE TIED CARD OF 'foundrylaw.SyntaxCanons'. -/
def syntaxCanonsCard : Claim7 := { stood := { row := syntaxCanonsRow, standIns := [], harness := (true, "f9e61dff33059ffb0ed24155aa529b36e0b48b119fda42e672aea190ced15415"), looks := true }, kinds := [], alts := [], laidByText := true, laidKinds := [.data, .data, .data, .widerDeep, .widerDeep], laidTests := true, laidLooks := .later }
def SyntaxCanonsCardSaid : Prop := Claim7.holds Tryz.pinned (.plain (OpenSpec.ofChange syntaxCanonsSpec)) syntaxCanonsCard

/-- THE TIED CARD OF 'foundrylaw.SyntaxBack'. -/
def syntaxBackCard : Claim7 := { stood := { row := syntaxBackRow, standIns := [], harness := (true, "f9e61dff33059ffb0ed24155aa529b36e0b48b119fda42e672aea190ced15415"), looks := true }, kinds := [], alts := [], laidByText := true, laidKinds := [.data, .data, .data, .widerDeep, .widerDeep], laidTests := true, laidLooks := .later }
def SyntaxBackCardSaid : Prop := Claim7.holds Tryz.pinned (.plain (OpenSpec.ofChange syntaxBackSpec)) syntaxBackCard

/-- THE TIED CARD OF 'foundrylaw.SyntaxQuotes'. -/
def syntaxQuotesCard : Claim7 := { stood := { row := syntaxQuotesRow, standIns := [], harness := (true, "f9e61dff33059ffb0ed24155aa529b36e0b48b119fda42e672aea190ced15415"), looks := true }, kinds := [], alts := [], laidByText := true, laidKinds := [.data, .data, .data, .widerDeep, .widerDeep], laidTests := true, laidLooks := .later }
def SyntaxQuotesCardSaid : Prop := Claim7.holds Tryz.pinned (.plain (OpenSpec.ofChange syntaxQuotesSpec)) syntaxQuotesCard

/-- THE TIED CARD OF 'foundrylaw.SyntaxBrackets'. -/
def syntaxBracketsCard : Claim7 := { stood := { row := syntaxBracketsRow, standIns := [], harness := (true, "f9e61dff33059ffb0ed24155aa529b36e0b48b119fda42e672aea190ced15415"), looks := true }, kinds := [], alts := [], laidByText := true, laidKinds := [.data, .data, .data, .widerDeep, .widerDeep], laidTests := true, laidLooks := .later }
def SyntaxBracketsCardSaid : Prop := Claim7.holds Tryz.pinned (.plain (OpenSpec.ofChange syntaxBracketsSpec)) syntaxBracketsCard

/-- THE TIED CARD OF 'foundrylaw.SyntaxJoins'. -/
def syntaxJoinsCard : Claim7 := { stood := { row := syntaxJoinsRow, standIns := [], harness := (true, "f9e61dff33059ffb0ed24155aa529b36e0b48b119fda42e672aea190ced15415"), looks := true }, kinds := [], alts := [], laidByText := true, laidKinds := [.data, .data, .data, .widerDeep, .widerDeep], laidTests := true, laidLooks := .later }
def SyntaxJoinsCardSaid : Prop := Claim7.holds Tryz.pinned (.plain (OpenSpec.ofChange syntaxJoinsSpec)) syntaxJoinsCard

/-- THE SECOND FORM's CARD OF 'foundrylaw.SyntaxParses'. -/
def syntaxParsesUptoCard : Claim7 := { stood := { row := syntaxParsesUptoRow, standIns := [], harness := (true, "f9e61dff33059ffb0ed24155aa529b36e0b48b119fda42e672aea190ced15415"), looks := true }, kinds := [], alts := [], laidByText := true, laidKinds := [.data, .data, .data, .widerDeep, .widerDeep], laidTests := true, laidLooks := .later }
def SyntaxParsesUptoCardSaid : Prop := Claim7.holds Tryz.pinned (.plain (OpenSpec.upto syntaxParsesSpec)) syntaxParsesUptoCard

/-- THE SECOND FORM's CARD OF 'foundrylaw.SyntaxWrites'. -/
def syntaxWritesUptoCard : Claim7 := { stood := { row := syntaxWritesUptoRow, standIns := [], harness := (true, "f9e61dff33059ffb0ed24155aa529b36e0b48b119fda42e672aea190ced15415"), looks := true }, kinds := [], alts := [], laidByText := true, laidKinds := [.data, .data, .data, .widerDeep, .widerDeep], laidTests := true, laidLooks := .later }
def SyntaxWritesUptoCardSaid : Prop := Claim7.holds Tryz.pinned (.plain (OpenSpec.upto syntaxWritesSpec)) syntaxWritesUptoCard

/-- THE SECOND FORM's CARD OF 'foundrylaw.SyntaxCanons'. -/
def syntaxCanonsUptoCard : Claim7 := { stood := { row := syntaxCanonsUptoRow, standIns := [], harness := (true, "f9e61dff33059ffb0ed24155aa529b36e0b48b119fda42e672aea190ced15415"), looks := true }, kinds := [], alts := [], laidByText := true, laidKinds := [.data, .data, .data, .widerDeep, .widerDeep], laidTests := true, laidLooks := .later }
def SyntaxCanonsUptoCardSaid : Prop := Claim7.holds Tryz.pinned (.plain (OpenSpec.upto syntaxCanonsSpec)) syntaxCanonsUptoCard

/-- THE SECOND FORM's CARD OF 'foundrylaw.SyntaxBack'. -/
def syntaxBackUptoCard : Claim7 := { stood := { row := syntaxBackUptoRow, standIns := [], harness := (true, "f9e61dff33059ffb0ed24155aa529b36e0b48b119fda42e672aea190ced15415"), looks := true }, kinds := [], alts := [], laidByText := true, laidKinds := [.data, .data, .data, .widerDeep, .widerDeep], laidTests := true, laidLooks := .later }
def SyntaxBackUptoCardSaid : Prop := Claim7.holds Tryz.pinned (.plain (OpenSpec.upto syntaxBackSpec)) syntaxBackUptoCard

/-- THE SECOND FORM's CARD OF 'foundrylaw.SyntaxQuotes'. -/
def syntaxQuotesUptoCard : Claim7 := { stood := { row := syntaxQuotesUptoRow, standIns := [], harness := (true, "f9e61dff33059ffb0ed24155aa529b36e0b48b119fda42e672aea190ced15415"), looks := true }, kinds := [], alts := [], laidByText := true, laidKinds := [.data, .data, .data, .widerDeep, .widerDeep], laidTests := true, laidLooks := .later }
def SyntaxQuotesUptoCardSaid : Prop := Claim7.holds Tryz.pinned (.plain (OpenSpec.upto syntaxQuotesSpec)) syntaxQuotesUptoCard

/-- THE SECOND FORM's CARD OF 'foundrylaw.SyntaxBrackets'. -/
def syntaxBracketsUptoCard : Claim7 := { stood := { row := syntaxBracketsUptoRow, standIns := [], harness := (true, "f9e61dff33059ffb0ed24155aa529b36e0b48b119fda42e672aea190ced15415"), looks := true }, kinds := [], alts := [], laidByText := true, laidKinds := [.data, .data, .data, .widerDeep, .widerDeep], laidTests := true, laidLooks := .later }
def SyntaxBracketsUptoCardSaid : Prop := Claim7.holds Tryz.pinned (.plain (OpenSpec.upto syntaxBracketsSpec)) syntaxBracketsUptoCard

/-- THE SECOND FORM's CARD OF 'foundrylaw.SyntaxJoins'. -/
def syntaxJoinsUptoCard : Claim7 := { stood := { row := syntaxJoinsUptoRow, standIns := [], harness := (true, "f9e61dff33059ffb0ed24155aa529b36e0b48b119fda42e672aea190ced15415"), looks := true }, kinds := [], alts := [], laidByText := true, laidKinds := [.data, .data, .data, .widerDeep, .widerDeep], laidTests := true, laidLooks := .later }
def SyntaxJoinsUptoCardSaid : Prop := Claim7.holds Tryz.pinned (.plain (OpenSpec.upto syntaxJoinsSpec)) syntaxJoinsUptoCard
end Rows
end Go.Proofs.YtonjhfeabphaaaaGreatDoor
