/-
  No cell of these rows narrows 'for every input' (looked for: loops, veiled, ifaces, maps, wideKeys, modest, calm, conditions, laid).
  DERIVED. THE GIVEN ROWS OF THIS SEAT. 6 by the template 'for every input the law returns true; each argument reads behind the call as it read before'; 0 by the template 'total and deterministic' (their statements: YtjbgcbolakdhaabTotals.lean).
  GIVEN WITH THE SEED: the statements are not yours to turn. If you find one false, say at which input.
  Laid BY PROGRAM, IN A SANDBOX (cutbox-rows.mjs): the forced cells as the released guide's own fill.sh prints them over the translation e2f88b687214cabc… (all of the seat's roots in one cut). By AI agents, Wed Nov 11 2026. No macro, syntax, notation, axiom, sorry.
-/
import Derived.Test.YtjbgcbolakdhaabChecked
import GoSem.Claim
import GoSem.ClaimJoined
import GoSem.ClaimMapViews
import Derived.JoinedTies
import Derived.KernelRfl
namespace Go.Proofs.Ytjbgcbolakdhaab
/- THE CELL 'sum', in the pinned program and in every row, IS THE sha256 OF THE DUMP (.gsa) THAT YtjbgcbolakdhaabProg.lean LOADS. Nothing in Lean hashes anything: it is a label: what it is worth is what the hold of that sum in a sandbox is worth. -/
noncomputable def Try.pinned : Pinned := { name := "ytjbgcbolakdhaab", sum := "e2f88b687214cabc4f1d830f3629e3c33dd84077d9574eff2666fbf77383936a", checked := Try.checked }
namespace Rows
def none {H : Type} : Left H := { results := [], args := [] }

/-- 'foundrylaw.WireReadTexts': WHATEVER THE INPUT: true; the input reads as it did. -/
def wireReadTextsSpec : ChangeSpec := { name := "wireReadTexts", fn := fun _ => fun
  | [d1, d2] => { results := [.lit (.bool true)], args := [d1, d2] }
  | _ => none }
def wireReadTextsRow : OpenClaim := { program := "ytjbgcbolakdhaab", sum := "e2f88b687214cabc4f1d830f3629e3c33dd84077d9574eff2666fbf77383936a", func := "foundry/foundrylaw.WireReadTexts", spec := "wireReadTexts", inPlace := ["internal/abi.NoEscape"], unfollowed := true, recurses := true, apart := false }
def WireReadTextsSaid : Prop := wireReadTextsRow.holds Try.pinned (OpenSpec.ofChange wireReadTextsSpec)

/-- ITS FALSE NEIGHBOUR: 'it returns false'. Refute it at one input. -/
def wireReadTextsWrong : ChangeSpec := { name := "wireReadTexts", fn := fun _ => fun
  | [d1, d2] => { results := [.lit (.bool false)], args := [d1, d2] }
  | _ => none }
def WireReadTextsWrongFalsely : Prop := wireReadTextsRow.holds Try.pinned (OpenSpec.ofChange wireReadTextsWrong)

/-- 'foundrylaw.WireBackNumber': WHATEVER THE INPUT: true; the input reads as it did. -/
def wireBackNumberSpec : ChangeSpec := { name := "wireBackNumber", fn := fun _ => fun
  | [d1, d2] => { results := [.lit (.bool true)], args := [d1, d2] }
  | _ => none }
def wireBackNumberRow : OpenClaim := { program := "ytjbgcbolakdhaab", sum := "e2f88b687214cabc4f1d830f3629e3c33dd84077d9574eff2666fbf77383936a", func := "foundry/foundrylaw.WireBackNumber", spec := "wireBackNumber", inPlace := ["internal/abi.NoEscape"], unfollowed := true, recurses := true, apart := false }
def WireBackNumberSaid : Prop := wireBackNumberRow.holds Try.pinned (OpenSpec.ofChange wireBackNumberSpec)

/-- ITS FALSE NEIGHBOUR: 'it returns false'. Refute it at one input. -/
def wireBackNumberWrong : ChangeSpec := { name := "wireBackNumber", fn := fun _ => fun
  | [d1, d2] => { results := [.lit (.bool false)], args := [d1, d2] }
  | _ => none }
def WireBackNumberWrongFalsely : Prop := wireBackNumberRow.holds Try.pinned (OpenSpec.ofChange wireBackNumberWrong)

/-- 'foundrylaw.WireBackTexts': WHATEVER THE INPUT: true; the input reads as it did. -/
def wireBackTextsSpec : ChangeSpec := { name := "wireBackTexts", fn := fun _ => fun
  | [d1, d2] => { results := [.lit (.bool true)], args := [d1, d2] }
  | _ => none }
def wireBackTextsRow : OpenClaim := { program := "ytjbgcbolakdhaab", sum := "e2f88b687214cabc4f1d830f3629e3c33dd84077d9574eff2666fbf77383936a", func := "foundry/foundrylaw.WireBackTexts", spec := "wireBackTexts", inPlace := ["internal/abi.NoEscape"], unfollowed := true, recurses := true, apart := false }
def WireBackTextsSaid : Prop := wireBackTextsRow.holds Try.pinned (OpenSpec.ofChange wireBackTextsSpec)

/-- ITS FALSE NEIGHBOUR: 'it returns false'. Refute it at one input. -/
def wireBackTextsWrong : ChangeSpec := { name := "wireBackTexts", fn := fun _ => fun
  | [d1, d2] => { results := [.lit (.bool false)], args := [d1, d2] }
  | _ => none }
def WireBackTextsWrongFalsely : Prop := wireBackTextsRow.holds Try.pinned (OpenSpec.ofChange wireBackTextsWrong)

/-- 'foundrylaw.WireResults': WHATEVER THE INPUT: true; the input reads as it did. -/
def wireResultsSpec : ChangeSpec := { name := "wireResults", fn := fun _ => fun
  | [d] => { results := [.lit (.bool true)], args := [d] }
  | _ => none }
def wireResultsRow : OpenClaim := { program := "ytjbgcbolakdhaab", sum := "e2f88b687214cabc4f1d830f3629e3c33dd84077d9574eff2666fbf77383936a", func := "foundry/foundrylaw.WireResults", spec := "wireResults", inPlace := ["internal/abi.NoEscape"], unfollowed := true, recurses := true, apart := false }
def WireResultsSaid : Prop := wireResultsRow.holds Try.pinned (OpenSpec.ofChange wireResultsSpec)

/-- ITS FALSE NEIGHBOUR: 'it returns false'. Refute it at one input. -/
def wireResultsWrong : ChangeSpec := { name := "wireResults", fn := fun _ => fun
  | [d] => { results := [.lit (.bool false)], args := [d] }
  | _ => none }
def WireResultsWrongFalsely : Prop := wireResultsRow.holds Try.pinned (OpenSpec.ofChange wireResultsWrong)

/-- 'foundrylaw.WireReadResults': WHATEVER THE INPUT: true; the input reads as it did. -/
def wireReadResultsSpec : ChangeSpec := { name := "wireReadResults", fn := fun _ => fun
  | [d1, d2] => { results := [.lit (.bool true)], args := [d1, d2] }
  | _ => none }
def wireReadResultsRow : OpenClaim := { program := "ytjbgcbolakdhaab", sum := "e2f88b687214cabc4f1d830f3629e3c33dd84077d9574eff2666fbf77383936a", func := "foundry/foundrylaw.WireReadResults", spec := "wireReadResults", inPlace := ["internal/abi.NoEscape"], unfollowed := true, recurses := true, apart := false }
def WireReadResultsSaid : Prop := wireReadResultsRow.holds Try.pinned (OpenSpec.ofChange wireReadResultsSpec)

/-- ITS FALSE NEIGHBOUR: 'it returns false'. Refute it at one input. -/
def wireReadResultsWrong : ChangeSpec := { name := "wireReadResults", fn := fun _ => fun
  | [d1, d2] => { results := [.lit (.bool false)], args := [d1, d2] }
  | _ => none }
def WireReadResultsWrongFalsely : Prop := wireReadResultsRow.holds Try.pinned (OpenSpec.ofChange wireReadResultsWrong)

/-- 'foundrylaw.WireBackResult': WHATEVER THE INPUT: true; the input reads as it did. -/
def wireBackResultSpec : ChangeSpec := { name := "wireBackResult", fn := fun _ => fun
  | [d1, d2] => { results := [.lit (.bool true)], args := [d1, d2] }
  | _ => none }
def wireBackResultRow : OpenClaim := { program := "ytjbgcbolakdhaab", sum := "e2f88b687214cabc4f1d830f3629e3c33dd84077d9574eff2666fbf77383936a", func := "foundry/foundrylaw.WireBackResult", spec := "wireBackResult", inPlace := ["internal/abi.NoEscape"], unfollowed := true, recurses := true, apart := false }
def WireBackResultSaid : Prop := wireBackResultRow.holds Try.pinned (OpenSpec.ofChange wireBackResultSpec)

/-- ITS FALSE NEIGHBOUR: 'it returns false'. Refute it at one input. -/
def wireBackResultWrong : ChangeSpec := { name := "wireBackResult", fn := fun _ => fun
  | [d1, d2] => { results := [.lit (.bool false)], args := [d1, d2] }
  | _ => none }
def WireBackResultWrongFalsely : Prop := wireBackResultRow.holds Try.pinned (OpenSpec.ofChange wireBackResultWrong)

/- THE SECOND FORM. 'bulk': how many values and letters a reading holds, each counted each time it is reached (what is shared counts as often as it is met; a slice's spare places count too). A statement '..UptoSaid' is the law's where the arguments, and the package variables that the reading takes, are together of bulk at most 1048576: NARROWER than '..Said'. Prove '..Said' where nothing that the law and all that it calls make is longer than what came in: it says more and counts as full. Else prove '..UptoSaid'. A law counts once. -/
mutual
def uptoBulk {H : Type} : DataW H → Nat
  | .lit (.string bytes) => bytes.length + 1
  | .lit _ => 1
  | .nil => 1
  | .ptr d => uptoBulk d + 1
  | .slice elems spare => uptoBulkAll elems + uptoBulkAll spare + 1
  | .agg parts => uptoBulkAll parts + 1
  | .iface _ d => uptoBulk d + 1
  | .map entries => uptoBulkEntries entries + 1
  | .held _ => 1
def uptoBulkAll {H : Type} : List (DataW H) → Nat
  | [] => 0
  | d :: r => uptoBulk d + uptoBulkAll r
def uptoBulkEntries {H : Type} : List (Lit × DataW H) → Nat
  | [] => 0
  | x :: r => uptoBulkEntry x + uptoBulkEntries r
def uptoBulkEntry {H : Type} : Lit × DataW H → Nat
  | (.string bytes, d) => bytes.length + uptoBulk d + 1
  | (_, d) => uptoBulk d + 1
 end
def uptoSmall : (H : Type) → List (DataW H) → Bool := fun _ ds => decide (uptoBulkAll ds ≤ 1048576)
def OpenSpec.upto (s : _root_.Go.ChangeSpec) : _root_.Go.OpenSpec := { _root_.Go.OpenSpec.ofChange s with cond := some uptoSmall }

/-- 'foundrylaw.WireReadTexts', WHERE WHAT IT READS IS OF BULK AT MOST 1048576: true; the input reads as it did. -/
def wireReadTextsUptoRow : OpenClaim := { program := "ytjbgcbolakdhaab", sum := "e2f88b687214cabc4f1d830f3629e3c33dd84077d9574eff2666fbf77383936a", func := "foundry/foundrylaw.WireReadTexts", spec := "wireReadTexts", inPlace := ["internal/abi.NoEscape"], unfollowed := true, recurses := true, apart := false, narrowed := true }
def WireReadTextsUptoSaid : Prop := wireReadTextsUptoRow.holds Try.pinned (OpenSpec.upto wireReadTextsSpec)

/-- 'foundrylaw.WireBackNumber', WHERE WHAT IT READS IS OF BULK AT MOST 1048576: true; the input reads as it did. -/
def wireBackNumberUptoRow : OpenClaim := { program := "ytjbgcbolakdhaab", sum := "e2f88b687214cabc4f1d830f3629e3c33dd84077d9574eff2666fbf77383936a", func := "foundry/foundrylaw.WireBackNumber", spec := "wireBackNumber", inPlace := ["internal/abi.NoEscape"], unfollowed := true, recurses := true, apart := false, narrowed := true }
def WireBackNumberUptoSaid : Prop := wireBackNumberUptoRow.holds Try.pinned (OpenSpec.upto wireBackNumberSpec)

/-- 'foundrylaw.WireBackTexts', WHERE WHAT IT READS IS OF BULK AT MOST 1048576: true; the input reads as it did. -/
def wireBackTextsUptoRow : OpenClaim := { program := "ytjbgcbolakdhaab", sum := "e2f88b687214cabc4f1d830f3629e3c33dd84077d9574eff2666fbf77383936a", func := "foundry/foundrylaw.WireBackTexts", spec := "wireBackTexts", inPlace := ["internal/abi.NoEscape"], unfollowed := true, recurses := true, apart := false, narrowed := true }
def WireBackTextsUptoSaid : Prop := wireBackTextsUptoRow.holds Try.pinned (OpenSpec.upto wireBackTextsSpec)

/-- 'foundrylaw.WireResults', WHERE WHAT IT READS IS OF BULK AT MOST 1048576: true; the input reads as it did. -/
def wireResultsUptoRow : OpenClaim := { program := "ytjbgcbolakdhaab", sum := "e2f88b687214cabc4f1d830f3629e3c33dd84077d9574eff2666fbf77383936a", func := "foundry/foundrylaw.WireResults", spec := "wireResults", inPlace := ["internal/abi.NoEscape"], unfollowed := true, recurses := true, apart := false, narrowed := true }
def WireResultsUptoSaid : Prop := wireResultsUptoRow.holds Try.pinned (OpenSpec.upto wireResultsSpec)

/-- 'foundrylaw.WireReadResults', WHERE WHAT IT READS IS OF BULK AT MOST 1048576: true; the input reads as it did. -/
def wireReadResultsUptoRow : OpenClaim := { program := "ytjbgcbolakdhaab", sum := "e2f88b687214cabc4f1d830f3629e3c33dd84077d9574eff2666fbf77383936a", func := "foundry/foundrylaw.WireReadResults", spec := "wireReadResults", inPlace := ["internal/abi.NoEscape"], unfollowed := true, recurses := true, apart := false, narrowed := true }
def WireReadResultsUptoSaid : Prop := wireReadResultsUptoRow.holds Try.pinned (OpenSpec.upto wireReadResultsSpec)

/-- 'foundrylaw.WireBackResult', WHERE WHAT IT READS IS OF BULK AT MOST 1048576: true; the input reads as it did. -/
def wireBackResultUptoRow : OpenClaim := { program := "ytjbgcbolakdhaab", sum := "e2f88b687214cabc4f1d830f3629e3c33dd84077d9574eff2666fbf77383936a", func := "foundry/foundrylaw.WireBackResult", spec := "wireBackResult", inPlace := ["internal/abi.NoEscape"], unfollowed := true, recurses := true, apart := false, narrowed := true }
def WireBackResultUptoSaid : Prop := wireBackResultUptoRow.holds Try.pinned (OpenSpec.upto wireBackResultSpec)

end Rows
end Go.Proofs.Ytjbgcbolakdhaab
