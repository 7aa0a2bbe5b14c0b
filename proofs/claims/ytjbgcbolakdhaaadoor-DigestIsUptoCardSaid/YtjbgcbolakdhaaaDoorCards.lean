/-
  DERIVED. GIVEN WITH THE SEED: THE CARDS: each row of YtjbgcbolakdhaaaDoorRows.lean that lists a variable, with what it lists TIED to the program's text (the seventh form; the later family's looks); each row that meets fmt, with fmt's text TOLD by the authors' own Lean function (tested against real Go, not proved from fmt's source: count such statements apart). THE CARD IS WHAT COUNTS. Prove the row's statement (the work); the ties are given (YtjbgcbolakdhaaaDoorTie.lean); close each card by the builder's one call (the guide's Derived/Test/ToyasCard.lean, 'card_holds'). Laid BY PROGRAM, IN A SANDBOX (cutbox-door.mjs). By AI agents, Wed Nov 11 2026. No macro, syntax, notation, axiom, sorry.
-/
import Derived.Test.YtjbgcbolakdhaaaDoorRows
import GoSem.ClaimSeven
namespace Go.Proofs.YtjbgcbolakdhaaaDoor
namespace Rows

/-- THE TIED CARD OF 'foundrylaw.DigestSums'. -/
def digestSumsCard : Claim7 := { stood := { row := digestSumsRow, standIns := [], harness := (true, "199a4c2985c362d07c6f3d55adbea7e95a6092ba78e439f11c079a97901f88c0"), looks := false }, kinds := [], alts := [], laidByText := true, laidKinds := [.data, .data], laidTests := true, laidLooks := .later }
def DigestSumsCardSaid : Prop := Claim7.holds Tryd.pinned (.plain (OpenSpec.ofChange digestSumsSpec)) digestSumsCard

/-- THE TIED CARD OF 'foundrylaw.DigestIs'. -/
def digestIsCard : Claim7 := { stood := { row := digestIsRow, standIns := [], harness := (true, "199a4c2985c362d07c6f3d55adbea7e95a6092ba78e439f11c079a97901f88c0"), looks := false }, kinds := [], alts := [], laidByText := true, laidKinds := [.data, .data], laidTests := true, laidLooks := .later }
def DigestIsCardSaid : Prop := Claim7.holds Tryd.pinned (.plain (OpenSpec.ofChange digestIsSpec)) digestIsCard

/-- THE SECOND FORM's CARD OF 'foundrylaw.DigestSums'. -/
def digestSumsUptoCard : Claim7 := { stood := { row := digestSumsUptoRow, standIns := [], harness := (true, "199a4c2985c362d07c6f3d55adbea7e95a6092ba78e439f11c079a97901f88c0"), looks := false }, kinds := [], alts := [], laidByText := true, laidKinds := [.data, .data], laidTests := true, laidLooks := .later }
def DigestSumsUptoCardSaid : Prop := Claim7.holds Tryd.pinned (.plain (OpenSpec.upto digestSumsSpec)) digestSumsUptoCard

/-- THE SECOND FORM's CARD OF 'foundrylaw.DigestIs'. -/
def digestIsUptoCard : Claim7 := { stood := { row := digestIsUptoRow, standIns := [], harness := (true, "199a4c2985c362d07c6f3d55adbea7e95a6092ba78e439f11c079a97901f88c0"), looks := false }, kinds := [], alts := [], laidByText := true, laidKinds := [.data, .data], laidTests := true, laidLooks := .later }
def DigestIsUptoCardSaid : Prop := Claim7.holds Tryd.pinned (.plain (OpenSpec.upto digestIsSpec)) digestIsUptoCard
end Rows
end Go.Proofs.YtjbgcbolakdhaaaDoor
