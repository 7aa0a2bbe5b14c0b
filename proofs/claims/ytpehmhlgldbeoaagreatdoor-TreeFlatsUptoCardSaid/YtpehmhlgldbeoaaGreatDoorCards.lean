/-
  DERIVED. GIVEN WITH THE SEED: THE CARDS: each row of YtpehmhlgldbeoaaGreatDoorRows.lean that lists a variable, with what it lists TIED to the program's text (the seventh form; the later family's looks); each row that meets fmt, with fmt's text TOLD by the authors' own Lean function (tested against real Go, not proved from fmt's source: count such statements apart). THE CARD IS WHAT COUNTS. Prove the row's statement (the work); the ties are given (YtpehmhlgldbeoaaGreatDoorTie.lean); close each card by the builder's one call (the guide's Derived/Test/ToyasCard.lean, 'card_holds'). Laid BY PROGRAM, IN A SANDBOX (cutbox-door.mjs). By AI agents, Wed Nov 11 2026. No macro, syntax, notation, axiom, sorry.
-/
import Derived.Test.YtpehmhlgldbeoaaGreatDoorRows
import GoSem.ClaimSeven
namespace Go.Proofs.YtpehmhlgldbeoaaGreatDoor
namespace Rows

/-- THE TIED CARD OF 'foundrylaw.TreeChecks'. -/
def treeChecksCard : Claim7 := { stood := { row := treeChecksRow, standIns := [], harness := (true, "7684d2f091d900c99b47ac7f1d11961c803129e8a48ef97663a2c1d159ff7bf6"), looks := true }, kinds := [], alts := [], laidByText := true, laidKinds := [.data, .data, .data, .pinned], laidTests := true, laidLooks := .later }
def TreeChecksCardSaid : Prop := Claim7.holds Tryz.pinned (.plain (OpenSpec.ofChange treeChecksSpec)) treeChecksCard

/-- THE TIED CARD OF 'foundrylaw.TreeFlats'. -/
def treeFlatsCard : Claim7 := { stood := { row := treeFlatsRow, standIns := [], harness := (true, "7684d2f091d900c99b47ac7f1d11961c803129e8a48ef97663a2c1d159ff7bf6"), looks := true }, kinds := [], alts := [], laidByText := true, laidKinds := [.data, .data, .data, .pinned], laidTests := true, laidLooks := .later }
def TreeFlatsCardSaid : Prop := Claim7.holds Tryz.pinned (.plain (OpenSpec.ofChange treeFlatsSpec)) treeFlatsCard

/-- THE TIED CARD OF 'foundrylaw.TreeBack'. -/
def treeBackCard : Claim7 := { stood := { row := treeBackRow, standIns := [], harness := (true, "7684d2f091d900c99b47ac7f1d11961c803129e8a48ef97663a2c1d159ff7bf6"), looks := true }, kinds := [], alts := [], laidByText := true, laidKinds := [.data, .data, .data, .pinned], laidTests := true, laidLooks := .later }
def TreeBackCardSaid : Prop := Claim7.holds Tryz.pinned (.plain (OpenSpec.ofChange treeBackSpec)) treeBackCard

/-- THE TIED CARD OF 'foundrylaw.TreeRoots'. -/
def treeRootsCard : Claim7 := { stood := { row := treeRootsRow, standIns := [], harness := (true, "7684d2f091d900c99b47ac7f1d11961c803129e8a48ef97663a2c1d159ff7bf6"), looks := true }, kinds := [], alts := [], laidByText := true, laidKinds := [.data, .data, .data, .pinned], laidTests := true, laidLooks := .later }
def TreeRootsCardSaid : Prop := Claim7.holds Tryz.pinned (.plain (OpenSpec.ofChange treeRootsSpec)) treeRootsCard

/-- THE TIED CARD OF 'foundrylaw.TreeBlobs'. -/
def treeBlobsCard : Claim7 := { stood := { row := treeBlobsRow, standIns := [], harness := (true, "7684d2f091d900c99b47ac7f1d11961c803129e8a48ef97663a2c1d159ff7bf6"), looks := true }, kinds := [], alts := [], laidByText := true, laidKinds := [.data, .data, .data, .pinned], laidTests := true, laidLooks := .later }
def TreeBlobsCardSaid : Prop := Claim7.holds Tryz.pinned (.plain (OpenSpec.ofChange treeBlobsSpec)) treeBlobsCard

/-- THE TIED CARD OF 'foundrylaw.TreeMeets'. -/
def treeMeetsCard : Claim7 := { stood := { row := treeMeetsRow, standIns := [], harness := (true, "7684d2f091d900c99b47ac7f1d11961c803129e8a48ef97663a2c1d159ff7bf6"), looks := true }, kinds := [], alts := [], laidByText := true, laidKinds := [.data, .data, .data, .pinned], laidTests := true, laidLooks := .later }
def TreeMeetsCardSaid : Prop := Claim7.holds Tryz.pinned (.plain (OpenSpec.ofChange treeMeetsSpec)) treeMeetsCard

/-- THE TIED CARD OF 'foundrylaw.TreeUnders'. -/
def treeUndersCard : Claim7 := { stood := { row := treeUndersRow, standIns := [], harness := (true, "7684d2f091d900c99b47ac7f1d11961c803129e8a48ef97663a2c1d159ff7bf6"), looks := true }, kinds := [], alts := [], laidByText := true, laidKinds := [.data, .data, .data, .pinned], laidTests := true, laidLooks := .later }
def TreeUndersCardSaid : Prop := Claim7.holds Tryz.pinned (.plain (OpenSpec.ofChange treeUndersSpec)) treeUndersCard

/-- THE TIED CARD OF 'foundrylaw.TreeSame'. -/
def treeSameCard : Claim7 := { stood := { row := treeSameRow, standIns := [], harness := (true, "7684d2f091d900c99b47ac7f1d11961c803129e8a48ef97663a2c1d159ff7bf6"), looks := true }, kinds := [], alts := [], laidByText := true, laidKinds := [.data, .data, .data, .pinned], laidTests := true, laidLooks := .later }
def TreeSameCardSaid : Prop := Claim7.holds Tryz.pinned (.plain (OpenSpec.ofChange treeSameSpec)) treeSameCard

/-- THE TIED CARD OF 'foundrylaw.TreeDiffers'. -/
def treeDiffersCard : Claim7 := { stood := { row := treeDiffersRow, standIns := [], harness := (true, "7684d2f091d900c99b47ac7f1d11961c803129e8a48ef97663a2c1d159ff7bf6"), looks := true }, kinds := [], alts := [], laidByText := true, laidKinds := [.data, .data, .data, .pinned], laidTests := true, laidLooks := .later }
def TreeDiffersCardSaid : Prop := Claim7.holds Tryz.pinned (.plain (OpenSpec.ofChange treeDiffersSpec)) treeDiffersCard

/-- THE TIED CARD OF 'foundrylaw.TreeOvers'. -/
def treeOversCard : Claim7 := { stood := { row := treeOversRow, standIns := [], harness := (true, "7684d2f091d900c99b47ac7f1d11961c803129e8a48ef97663a2c1d159ff7bf6"), looks := true }, kinds := [], alts := [], laidByText := true, laidKinds := [.data, .data, .data, .pinned], laidTests := true, laidLooks := .later }
def TreeOversCardSaid : Prop := Claim7.holds Tryz.pinned (.plain (OpenSpec.ofChange treeOversSpec)) treeOversCard

/-- THE TIED CARD OF 'foundrylaw.TreeLays'. -/
def treeLaysCard : Claim7 := { stood := { row := treeLaysRow, standIns := [], harness := (true, "7684d2f091d900c99b47ac7f1d11961c803129e8a48ef97663a2c1d159ff7bf6"), looks := true }, kinds := [], alts := [], laidByText := true, laidKinds := [.data, .data, .data, .pinned], laidTests := true, laidLooks := .later }
def TreeLaysCardSaid : Prop := Claim7.holds Tryz.pinned (.plain (OpenSpec.ofChange treeLaysSpec)) treeLaysCard

/-- THE TIED CARD OF 'foundrylaw.TreeParts'. -/
def treePartsCard : Claim7 := { stood := { row := treePartsRow, standIns := [], harness := (true, "7684d2f091d900c99b47ac7f1d11961c803129e8a48ef97663a2c1d159ff7bf6"), looks := true }, kinds := [], alts := [], laidByText := true, laidKinds := [.data, .data, .data, .pinned], laidTests := true, laidLooks := .later }
def TreePartsCardSaid : Prop := Claim7.holds Tryz.pinned (.plain (OpenSpec.ofChange treePartsSpec)) treePartsCard

/-- THE SECOND FORM's CARD OF 'foundrylaw.TreeChecks'. -/
def treeChecksUptoCard : Claim7 := { stood := { row := treeChecksUptoRow, standIns := [], harness := (true, "7684d2f091d900c99b47ac7f1d11961c803129e8a48ef97663a2c1d159ff7bf6"), looks := true }, kinds := [], alts := [], laidByText := true, laidKinds := [.data, .data, .data, .pinned], laidTests := true, laidLooks := .later }
def TreeChecksUptoCardSaid : Prop := Claim7.holds Tryz.pinned (.plain (OpenSpec.upto treeChecksSpec)) treeChecksUptoCard

/-- THE SECOND FORM's CARD OF 'foundrylaw.TreeFlats'. -/
def treeFlatsUptoCard : Claim7 := { stood := { row := treeFlatsUptoRow, standIns := [], harness := (true, "7684d2f091d900c99b47ac7f1d11961c803129e8a48ef97663a2c1d159ff7bf6"), looks := true }, kinds := [], alts := [], laidByText := true, laidKinds := [.data, .data, .data, .pinned], laidTests := true, laidLooks := .later }
def TreeFlatsUptoCardSaid : Prop := Claim7.holds Tryz.pinned (.plain (OpenSpec.upto treeFlatsSpec)) treeFlatsUptoCard

/-- THE SECOND FORM's CARD OF 'foundrylaw.TreeBack'. -/
def treeBackUptoCard : Claim7 := { stood := { row := treeBackUptoRow, standIns := [], harness := (true, "7684d2f091d900c99b47ac7f1d11961c803129e8a48ef97663a2c1d159ff7bf6"), looks := true }, kinds := [], alts := [], laidByText := true, laidKinds := [.data, .data, .data, .pinned], laidTests := true, laidLooks := .later }
def TreeBackUptoCardSaid : Prop := Claim7.holds Tryz.pinned (.plain (OpenSpec.upto treeBackSpec)) treeBackUptoCard

/-- THE SECOND FORM's CARD OF 'foundrylaw.TreeRoots'. -/
def treeRootsUptoCard : Claim7 := { stood := { row := treeRootsUptoRow, standIns := [], harness := (true, "7684d2f091d900c99b47ac7f1d11961c803129e8a48ef97663a2c1d159ff7bf6"), looks := true }, kinds := [], alts := [], laidByText := true, laidKinds := [.data, .data, .data, .pinned], laidTests := true, laidLooks := .later }
def TreeRootsUptoCardSaid : Prop := Claim7.holds Tryz.pinned (.plain (OpenSpec.upto treeRootsSpec)) treeRootsUptoCard

/-- THE SECOND FORM's CARD OF 'foundrylaw.TreeBlobs'. -/
def treeBlobsUptoCard : Claim7 := { stood := { row := treeBlobsUptoRow, standIns := [], harness := (true, "7684d2f091d900c99b47ac7f1d11961c803129e8a48ef97663a2c1d159ff7bf6"), looks := true }, kinds := [], alts := [], laidByText := true, laidKinds := [.data, .data, .data, .pinned], laidTests := true, laidLooks := .later }
def TreeBlobsUptoCardSaid : Prop := Claim7.holds Tryz.pinned (.plain (OpenSpec.upto treeBlobsSpec)) treeBlobsUptoCard

/-- THE SECOND FORM's CARD OF 'foundrylaw.TreeMeets'. -/
def treeMeetsUptoCard : Claim7 := { stood := { row := treeMeetsUptoRow, standIns := [], harness := (true, "7684d2f091d900c99b47ac7f1d11961c803129e8a48ef97663a2c1d159ff7bf6"), looks := true }, kinds := [], alts := [], laidByText := true, laidKinds := [.data, .data, .data, .pinned], laidTests := true, laidLooks := .later }
def TreeMeetsUptoCardSaid : Prop := Claim7.holds Tryz.pinned (.plain (OpenSpec.upto treeMeetsSpec)) treeMeetsUptoCard

/-- THE SECOND FORM's CARD OF 'foundrylaw.TreeUnders'. -/
def treeUndersUptoCard : Claim7 := { stood := { row := treeUndersUptoRow, standIns := [], harness := (true, "7684d2f091d900c99b47ac7f1d11961c803129e8a48ef97663a2c1d159ff7bf6"), looks := true }, kinds := [], alts := [], laidByText := true, laidKinds := [.data, .data, .data, .pinned], laidTests := true, laidLooks := .later }
def TreeUndersUptoCardSaid : Prop := Claim7.holds Tryz.pinned (.plain (OpenSpec.upto treeUndersSpec)) treeUndersUptoCard

/-- THE SECOND FORM's CARD OF 'foundrylaw.TreeSame'. -/
def treeSameUptoCard : Claim7 := { stood := { row := treeSameUptoRow, standIns := [], harness := (true, "7684d2f091d900c99b47ac7f1d11961c803129e8a48ef97663a2c1d159ff7bf6"), looks := true }, kinds := [], alts := [], laidByText := true, laidKinds := [.data, .data, .data, .pinned], laidTests := true, laidLooks := .later }
def TreeSameUptoCardSaid : Prop := Claim7.holds Tryz.pinned (.plain (OpenSpec.upto treeSameSpec)) treeSameUptoCard

/-- THE SECOND FORM's CARD OF 'foundrylaw.TreeDiffers'. -/
def treeDiffersUptoCard : Claim7 := { stood := { row := treeDiffersUptoRow, standIns := [], harness := (true, "7684d2f091d900c99b47ac7f1d11961c803129e8a48ef97663a2c1d159ff7bf6"), looks := true }, kinds := [], alts := [], laidByText := true, laidKinds := [.data, .data, .data, .pinned], laidTests := true, laidLooks := .later }
def TreeDiffersUptoCardSaid : Prop := Claim7.holds Tryz.pinned (.plain (OpenSpec.upto treeDiffersSpec)) treeDiffersUptoCard

/-- THE SECOND FORM's CARD OF 'foundrylaw.TreeOvers'. -/
def treeOversUptoCard : Claim7 := { stood := { row := treeOversUptoRow, standIns := [], harness := (true, "7684d2f091d900c99b47ac7f1d11961c803129e8a48ef97663a2c1d159ff7bf6"), looks := true }, kinds := [], alts := [], laidByText := true, laidKinds := [.data, .data, .data, .pinned], laidTests := true, laidLooks := .later }
def TreeOversUptoCardSaid : Prop := Claim7.holds Tryz.pinned (.plain (OpenSpec.upto treeOversSpec)) treeOversUptoCard

/-- THE SECOND FORM's CARD OF 'foundrylaw.TreeLays'. -/
def treeLaysUptoCard : Claim7 := { stood := { row := treeLaysUptoRow, standIns := [], harness := (true, "7684d2f091d900c99b47ac7f1d11961c803129e8a48ef97663a2c1d159ff7bf6"), looks := true }, kinds := [], alts := [], laidByText := true, laidKinds := [.data, .data, .data, .pinned], laidTests := true, laidLooks := .later }
def TreeLaysUptoCardSaid : Prop := Claim7.holds Tryz.pinned (.plain (OpenSpec.upto treeLaysSpec)) treeLaysUptoCard

/-- THE SECOND FORM's CARD OF 'foundrylaw.TreeParts'. -/
def treePartsUptoCard : Claim7 := { stood := { row := treePartsUptoRow, standIns := [], harness := (true, "7684d2f091d900c99b47ac7f1d11961c803129e8a48ef97663a2c1d159ff7bf6"), looks := true }, kinds := [], alts := [], laidByText := true, laidKinds := [.data, .data, .data, .pinned], laidTests := true, laidLooks := .later }
def TreePartsUptoCardSaid : Prop := Claim7.holds Tryz.pinned (.plain (OpenSpec.upto treePartsSpec)) treePartsUptoCard
end Rows
end Go.Proofs.YtpehmhlgldbeoaaGreatDoor
