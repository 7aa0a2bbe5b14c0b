/-
  No cell of these rows narrows 'for every input' (looked for: loops, veiled, ifaces, maps, wideKeys, modest, calm, conditions, laid).
  DERIVED. THE GIVEN ROWS OF THIS SEAT. 10 by the template 'for every input the law returns true; each argument reads behind the call as it read before'; 0 by the template 'total and deterministic' (their statements: YtjbgcbolakdhaaaTotals.lean).
  GIVEN WITH THE SEED: the statements are not yours to turn. If you find one false, say at which input.
  Laid BY PROGRAM, IN A SANDBOX (cutbox-rows.mjs): the forced cells as the released guide's own fill.sh prints them over the translation 33b106c0ffd5381d… (all of the seat's roots in one cut). By AI agents, Wed Nov 11 2026. No macro, syntax, notation, axiom, sorry.
-/
import Derived.Test.YtjbgcbolakdhaaaChecked
import GoSem.Claim
import GoSem.ClaimJoined
import GoSem.ClaimMapViews
import Derived.JoinedTies
import Derived.KernelRfl
namespace Go.Proofs.Ytjbgcbolakdhaaa
/- THE CELL 'sum', in the pinned program and in every row, IS THE sha256 OF THE DUMP (.gsa) THAT YtjbgcbolakdhaaaProg.lean LOADS. Nothing in Lean hashes anything: it is a label: what it is worth is what the hold of that sum in a sandbox is worth. -/
noncomputable def Try.pinned : Pinned := { name := "ytjbgcbolakdhaaa", sum := "33b106c0ffd5381d9ab142bf10d055197c287b30edbd20614b69bb097b8c75c5", checked := Try.checked }
namespace Rows
def none {H : Type} : Left H := { results := [], args := [] }

/-- 'foundrylaw.LogChecks': WHATEVER THE INPUT: true; the input reads as it did. -/
def logChecksSpec : ChangeSpec := { name := "logChecks", fn := fun _ => fun
  | [d] => { results := [.lit (.bool true)], args := [d] }
  | _ => none }
def logChecksRow : OpenClaim := { program := "ytjbgcbolakdhaaa", sum := "33b106c0ffd5381d9ab142bf10d055197c287b30edbd20614b69bb097b8c75c5", func := "foundry/foundrylaw.LogChecks", spec := "logChecks", inPlace := ["internal/abi.NoEscape"], unfollowed := true, recurses := true, apart := false }
def LogChecksSaid : Prop := logChecksRow.holds Try.pinned (OpenSpec.ofChange logChecksSpec)

/-- ITS FALSE NEIGHBOUR: 'it returns false'. Refute it at one input. -/
def logChecksWrong : ChangeSpec := { name := "logChecks", fn := fun _ => fun
  | [d] => { results := [.lit (.bool false)], args := [d] }
  | _ => none }
def LogChecksWrongFalsely : Prop := logChecksRow.holds Try.pinned (OpenSpec.ofChange logChecksWrong)

/-- 'foundrylaw.LogCuts': WHATEVER THE INPUT: true; the input reads as it did. -/
def logCutsSpec : ChangeSpec := { name := "logCuts", fn := fun _ => fun
  | [d1, d2] => { results := [.lit (.bool true)], args := [d1, d2] }
  | _ => none }
def logCutsRow : OpenClaim := { program := "ytjbgcbolakdhaaa", sum := "33b106c0ffd5381d9ab142bf10d055197c287b30edbd20614b69bb097b8c75c5", func := "foundry/foundrylaw.LogCuts", spec := "logCuts", inPlace := ["internal/abi.NoEscape"], apart := false }
def LogCutsSaid : Prop := logCutsRow.holds Try.pinned (OpenSpec.ofChange logCutsSpec)

/-- ITS FALSE NEIGHBOUR: 'it returns false'. Refute it at one input. -/
def logCutsWrong : ChangeSpec := { name := "logCuts", fn := fun _ => fun
  | [d1, d2] => { results := [.lit (.bool false)], args := [d1, d2] }
  | _ => none }
def LogCutsWrongFalsely : Prop := logCutsRow.holds Try.pinned (OpenSpec.ofChange logCutsWrong)

/-- 'foundrylaw.LogGuards': WHATEVER THE INPUT: true; the input reads as it did. -/
def logGuardsSpec : ChangeSpec := { name := "logGuards", fn := fun _ => fun
  | [d1, d2, d3, d4] => { results := [.lit (.bool true)], args := [d1, d2, d3, d4] }
  | _ => none }
def logGuardsRow : OpenClaim := { program := "ytjbgcbolakdhaaa", sum := "33b106c0ffd5381d9ab142bf10d055197c287b30edbd20614b69bb097b8c75c5", func := "foundry/foundrylaw.LogGuards", spec := "logGuards", inPlace := ["internal/abi.NoEscape"], apart := false }
def LogGuardsSaid : Prop := logGuardsRow.holds Try.pinned (OpenSpec.ofChange logGuardsSpec)

/-- ITS FALSE NEIGHBOUR: 'it returns false'. Refute it at one input. -/
def logGuardsWrong : ChangeSpec := { name := "logGuards", fn := fun _ => fun
  | [d1, d2, d3, d4] => { results := [.lit (.bool false)], args := [d1, d2, d3, d4] }
  | _ => none }
def LogGuardsWrongFalsely : Prop := logGuardsRow.holds Try.pinned (OpenSpec.ofChange logGuardsWrong)

/-- 'foundrylaw.LogAppends': WHATEVER THE INPUT: true; the input reads as it did. -/
def logAppendsSpec : ChangeSpec := { name := "logAppends", fn := fun _ => fun
  | [d1, d2] => { results := [.lit (.bool true)], args := [d1, d2] }
  | _ => none }
def logAppendsRow : OpenClaim := { program := "ytjbgcbolakdhaaa", sum := "33b106c0ffd5381d9ab142bf10d055197c287b30edbd20614b69bb097b8c75c5", func := "foundry/foundrylaw.LogAppends", spec := "logAppends", inPlace := ["internal/abi.NoEscape"], unfollowed := true, recurses := true, apart := false }
def LogAppendsSaid : Prop := logAppendsRow.holds Try.pinned (OpenSpec.ofChange logAppendsSpec)

/-- ITS FALSE NEIGHBOUR: 'it returns false'. Refute it at one input. -/
def logAppendsWrong : ChangeSpec := { name := "logAppends", fn := fun _ => fun
  | [d1, d2] => { results := [.lit (.bool false)], args := [d1, d2] }
  | _ => none }
def LogAppendsWrongFalsely : Prop := logAppendsRow.holds Try.pinned (OpenSpec.ofChange logAppendsWrong)

/-- 'foundrylaw.LogReads': WHATEVER THE INPUT: true; the input reads as it did. -/
def logReadsSpec : ChangeSpec := { name := "logReads", fn := fun _ => fun
  | [d] => { results := [.lit (.bool true)], args := [d] }
  | _ => none }
def logReadsRow : OpenClaim := { program := "ytjbgcbolakdhaaa", sum := "33b106c0ffd5381d9ab142bf10d055197c287b30edbd20614b69bb097b8c75c5", func := "foundry/foundrylaw.LogReads", spec := "logReads", inPlace := ["internal/abi.NoEscape"], unfollowed := true, recurses := true, apart := false }
def LogReadsSaid : Prop := logReadsRow.holds Try.pinned (OpenSpec.ofChange logReadsSpec)

/-- ITS FALSE NEIGHBOUR: 'it returns false'. Refute it at one input. -/
def logReadsWrong : ChangeSpec := { name := "logReads", fn := fun _ => fun
  | [d] => { results := [.lit (.bool false)], args := [d] }
  | _ => none }
def LogReadsWrongFalsely : Prop := logReadsRow.holds Try.pinned (OpenSpec.ofChange logReadsWrong)

/-- 'foundrylaw.LogJoins': WHATEVER THE INPUT: true; the input reads as it did. -/
def logJoinsSpec : ChangeSpec := { name := "logJoins", fn := fun _ => fun
  | [d1, d2] => { results := [.lit (.bool true)], args := [d1, d2] }
  | _ => none }
def logJoinsRow : OpenClaim := { program := "ytjbgcbolakdhaaa", sum := "33b106c0ffd5381d9ab142bf10d055197c287b30edbd20614b69bb097b8c75c5", func := "foundry/foundrylaw.LogJoins", spec := "logJoins", inPlace := ["internal/abi.NoEscape"], apart := false }
def LogJoinsSaid : Prop := logJoinsRow.holds Try.pinned (OpenSpec.ofChange logJoinsSpec)

/-- ITS FALSE NEIGHBOUR: 'it returns false'. Refute it at one input. -/
def logJoinsWrong : ChangeSpec := { name := "logJoins", fn := fun _ => fun
  | [d1, d2] => { results := [.lit (.bool false)], args := [d1, d2] }
  | _ => none }
def LogJoinsWrongFalsely : Prop := logJoinsRow.holds Try.pinned (OpenSpec.ofChange logJoinsWrong)

/-- 'foundrylaw.LogCompacts': WHATEVER THE INPUT: true; the input reads as it did. -/
def logCompactsSpec : ChangeSpec := { name := "logCompacts", fn := fun _ => fun
  | [d1, d2] => { results := [.lit (.bool true)], args := [d1, d2] }
  | _ => none }
def logCompactsRow : OpenClaim := { program := "ytjbgcbolakdhaaa", sum := "33b106c0ffd5381d9ab142bf10d055197c287b30edbd20614b69bb097b8c75c5", func := "foundry/foundrylaw.LogCompacts", spec := "logCompacts", inPlace := ["internal/abi.NoEscape"], unfollowed := true, recurses := true, apart := false }
def LogCompactsSaid : Prop := logCompactsRow.holds Try.pinned (OpenSpec.ofChange logCompactsSpec)

/-- ITS FALSE NEIGHBOUR: 'it returns false'. Refute it at one input. -/
def logCompactsWrong : ChangeSpec := { name := "logCompacts", fn := fun _ => fun
  | [d1, d2] => { results := [.lit (.bool false)], args := [d1, d2] }
  | _ => none }
def LogCompactsWrongFalsely : Prop := logCompactsRow.holds Try.pinned (OpenSpec.ofChange logCompactsWrong)

/-- 'foundrylaw.WireNumbers': WHATEVER THE INPUT: true; the input reads as it did. -/
def wireNumbersSpec : ChangeSpec := { name := "wireNumbers", fn := fun _ => fun
  | [d] => { results := [.lit (.bool true)], args := [d] }
  | _ => none }
def wireNumbersRow : OpenClaim := { program := "ytjbgcbolakdhaaa", sum := "33b106c0ffd5381d9ab142bf10d055197c287b30edbd20614b69bb097b8c75c5", func := "foundry/foundrylaw.WireNumbers", spec := "wireNumbers", inPlace := ["internal/abi.NoEscape"], unfollowed := true, recurses := true, apart := false }
def WireNumbersSaid : Prop := wireNumbersRow.holds Try.pinned (OpenSpec.ofChange wireNumbersSpec)

/-- ITS FALSE NEIGHBOUR: 'it returns false'. Refute it at one input. -/
def wireNumbersWrong : ChangeSpec := { name := "wireNumbers", fn := fun _ => fun
  | [d] => { results := [.lit (.bool false)], args := [d] }
  | _ => none }
def WireNumbersWrongFalsely : Prop := wireNumbersRow.holds Try.pinned (OpenSpec.ofChange wireNumbersWrong)

/-- 'foundrylaw.WireReadNumbers': WHATEVER THE INPUT: true; the input reads as it did. -/
def wireReadNumbersSpec : ChangeSpec := { name := "wireReadNumbers", fn := fun _ => fun
  | [d] => { results := [.lit (.bool true)], args := [d] }
  | _ => none }
def wireReadNumbersRow : OpenClaim := { program := "ytjbgcbolakdhaaa", sum := "33b106c0ffd5381d9ab142bf10d055197c287b30edbd20614b69bb097b8c75c5", func := "foundry/foundrylaw.WireReadNumbers", spec := "wireReadNumbers", inPlace := ["internal/abi.NoEscape"], unfollowed := true, recurses := true, apart := false }
def WireReadNumbersSaid : Prop := wireReadNumbersRow.holds Try.pinned (OpenSpec.ofChange wireReadNumbersSpec)

/-- ITS FALSE NEIGHBOUR: 'it returns false'. Refute it at one input. -/
def wireReadNumbersWrong : ChangeSpec := { name := "wireReadNumbers", fn := fun _ => fun
  | [d] => { results := [.lit (.bool false)], args := [d] }
  | _ => none }
def WireReadNumbersWrongFalsely : Prop := wireReadNumbersRow.holds Try.pinned (OpenSpec.ofChange wireReadNumbersWrong)

/-- 'foundrylaw.WireTexts': WHATEVER THE INPUT: true; the input reads as it did. -/
def wireTextsSpec : ChangeSpec := { name := "wireTexts", fn := fun _ => fun
  | [d] => { results := [.lit (.bool true)], args := [d] }
  | _ => none }
def wireTextsRow : OpenClaim := { program := "ytjbgcbolakdhaaa", sum := "33b106c0ffd5381d9ab142bf10d055197c287b30edbd20614b69bb097b8c75c5", func := "foundry/foundrylaw.WireTexts", spec := "wireTexts", inPlace := ["internal/abi.NoEscape"], unfollowed := true, recurses := true, apart := false }
def WireTextsSaid : Prop := wireTextsRow.holds Try.pinned (OpenSpec.ofChange wireTextsSpec)

/-- ITS FALSE NEIGHBOUR: 'it returns false'. Refute it at one input. -/
def wireTextsWrong : ChangeSpec := { name := "wireTexts", fn := fun _ => fun
  | [d] => { results := [.lit (.bool false)], args := [d] }
  | _ => none }
def WireTextsWrongFalsely : Prop := wireTextsRow.holds Try.pinned (OpenSpec.ofChange wireTextsWrong)

/- THE SECOND FORM. 'bulk': how many values and letters a reading holds, each counted each time it is reached (what is shared counts as often as it is met; a slice's spare places count too). A statement '..UptoSaid' is the law's where the arguments, and the package variables that the reading takes, are together of bulk at most 1048576: NARROWER than '..Said'. Prove '..Said' where nothing that the law and all that it calls make is longer than what came in: it says more and counts as full. Else prove '..UptoSaid'. A law counts once. -/
mutual
def uptoBulk {H : Type} : DataW H → Nat
  | .lit (.string bytes) => bytes.length + 1
  | .lit _ => 1
  | .nil => 1
  | .ptr d => uptoBulk d + 1
  | .slice elems spare => uptoBulkAll elems + uptoBulkAll spare + 1
  | .agg parts => uptoBulkAll parts + 1
  | .iface _ d => uptoBulk d + 1
  | .map entries => uptoBulkEntries entries + 1
  | .held _ => 1
def uptoBulkAll {H : Type} : List (DataW H) → Nat
  | [] => 0
  | d :: r => uptoBulk d + uptoBulkAll r
def uptoBulkEntries {H : Type} : List (Lit × DataW H) → Nat
  | [] => 0
  | x :: r => uptoBulkEntry x + uptoBulkEntries r
def uptoBulkEntry {H : Type} : Lit × DataW H → Nat
  | (.string bytes, d) => bytes.length + uptoBulk d + 1
  | (_, d) => uptoBulk d + 1
 end
def uptoSmall : (H : Type) → List (DataW H) → Bool := fun _ ds => decide (uptoBulkAll ds ≤ 1048576)
def OpenSpec.upto (s : _root_.Go.ChangeSpec) : _root_.Go.OpenSpec := { _root_.Go.OpenSpec.ofChange s with cond := some uptoSmall }

/-- 'foundrylaw.LogChecks', WHERE WHAT IT READS IS OF BULK AT MOST 1048576: true; the input reads as it did. -/
def logChecksUptoRow : OpenClaim := { program := "ytjbgcbolakdhaaa", sum := "33b106c0ffd5381d9ab142bf10d055197c287b30edbd20614b69bb097b8c75c5", func := "foundry/foundrylaw.LogChecks", spec := "logChecks", inPlace := ["internal/abi.NoEscape"], unfollowed := true, recurses := true, apart := false, narrowed := true }
def LogChecksUptoSaid : Prop := logChecksUptoRow.holds Try.pinned (OpenSpec.upto logChecksSpec)

/-- 'foundrylaw.LogCuts', WHERE WHAT IT READS IS OF BULK AT MOST 1048576: true; the input reads as it did. -/
def logCutsUptoRow : OpenClaim := { program := "ytjbgcbolakdhaaa", sum := "33b106c0ffd5381d9ab142bf10d055197c287b30edbd20614b69bb097b8c75c5", func := "foundry/foundrylaw.LogCuts", spec := "logCuts", inPlace := ["internal/abi.NoEscape"], apart := false, narrowed := true }
def LogCutsUptoSaid : Prop := logCutsUptoRow.holds Try.pinned (OpenSpec.upto logCutsSpec)

/-- 'foundrylaw.LogGuards', WHERE WHAT IT READS IS OF BULK AT MOST 1048576: true; the input reads as it did. -/
def logGuardsUptoRow : OpenClaim := { program := "ytjbgcbolakdhaaa", sum := "33b106c0ffd5381d9ab142bf10d055197c287b30edbd20614b69bb097b8c75c5", func := "foundry/foundrylaw.LogGuards", spec := "logGuards", inPlace := ["internal/abi.NoEscape"], apart := false, narrowed := true }
def LogGuardsUptoSaid : Prop := logGuardsUptoRow.holds Try.pinned (OpenSpec.upto logGuardsSpec)

/-- 'foundrylaw.LogAppends', WHERE WHAT IT READS IS OF BULK AT MOST 1048576: true; the input reads as it did. -/
def logAppendsUptoRow : OpenClaim := { program := "ytjbgcbolakdhaaa", sum := "33b106c0ffd5381d9ab142bf10d055197c287b30edbd20614b69bb097b8c75c5", func := "foundry/foundrylaw.LogAppends", spec := "logAppends", inPlace := ["internal/abi.NoEscape"], unfollowed := true, recurses := true, apart := false, narrowed := true }
def LogAppendsUptoSaid : Prop := logAppendsUptoRow.holds Try.pinned (OpenSpec.upto logAppendsSpec)

/-- 'foundrylaw.LogReads', WHERE WHAT IT READS IS OF BULK AT MOST 1048576: true; the input reads as it did. -/
def logReadsUptoRow : OpenClaim := { program := "ytjbgcbolakdhaaa", sum := "33b106c0ffd5381d9ab142bf10d055197c287b30edbd20614b69bb097b8c75c5", func := "foundry/foundrylaw.LogReads", spec := "logReads", inPlace := ["internal/abi.NoEscape"], unfollowed := true, recurses := true, apart := false, narrowed := true }
def LogReadsUptoSaid : Prop := logReadsUptoRow.holds Try.pinned (OpenSpec.upto logReadsSpec)

/-- 'foundrylaw.LogJoins', WHERE WHAT IT READS IS OF BULK AT MOST 1048576: true; the input reads as it did. -/
def logJoinsUptoRow : OpenClaim := { program := "ytjbgcbolakdhaaa", sum := "33b106c0ffd5381d9ab142bf10d055197c287b30edbd20614b69bb097b8c75c5", func := "foundry/foundrylaw.LogJoins", spec := "logJoins", inPlace := ["internal/abi.NoEscape"], apart := false, narrowed := true }
def LogJoinsUptoSaid : Prop := logJoinsUptoRow.holds Try.pinned (OpenSpec.upto logJoinsSpec)

/-- 'foundrylaw.LogCompacts', WHERE WHAT IT READS IS OF BULK AT MOST 1048576: true; the input reads as it did. -/
def logCompactsUptoRow : OpenClaim := { program := "ytjbgcbolakdhaaa", sum := "33b106c0ffd5381d9ab142bf10d055197c287b30edbd20614b69bb097b8c75c5", func := "foundry/foundrylaw.LogCompacts", spec := "logCompacts", inPlace := ["internal/abi.NoEscape"], unfollowed := true, recurses := true, apart := false, narrowed := true }
def LogCompactsUptoSaid : Prop := logCompactsUptoRow.holds Try.pinned (OpenSpec.upto logCompactsSpec)

/-- 'foundrylaw.WireNumbers', WHERE WHAT IT READS IS OF BULK AT MOST 1048576: true; the input reads as it did. -/
def wireNumbersUptoRow : OpenClaim := { program := "ytjbgcbolakdhaaa", sum := "33b106c0ffd5381d9ab142bf10d055197c287b30edbd20614b69bb097b8c75c5", func := "foundry/foundrylaw.WireNumbers", spec := "wireNumbers", inPlace := ["internal/abi.NoEscape"], unfollowed := true, recurses := true, apart := false, narrowed := true }
def WireNumbersUptoSaid : Prop := wireNumbersUptoRow.holds Try.pinned (OpenSpec.upto wireNumbersSpec)

/-- 'foundrylaw.WireReadNumbers', WHERE WHAT IT READS IS OF BULK AT MOST 1048576: true; the input reads as it did. -/
def wireReadNumbersUptoRow : OpenClaim := { program := "ytjbgcbolakdhaaa", sum := "33b106c0ffd5381d9ab142bf10d055197c287b30edbd20614b69bb097b8c75c5", func := "foundry/foundrylaw.WireReadNumbers", spec := "wireReadNumbers", inPlace := ["internal/abi.NoEscape"], unfollowed := true, recurses := true, apart := false, narrowed := true }
def WireReadNumbersUptoSaid : Prop := wireReadNumbersUptoRow.holds Try.pinned (OpenSpec.upto wireReadNumbersSpec)

/-- 'foundrylaw.WireTexts', WHERE WHAT IT READS IS OF BULK AT MOST 1048576: true; the input reads as it did. -/
def wireTextsUptoRow : OpenClaim := { program := "ytjbgcbolakdhaaa", sum := "33b106c0ffd5381d9ab142bf10d055197c287b30edbd20614b69bb097b8c75c5", func := "foundry/foundrylaw.WireTexts", spec := "wireTexts", inPlace := ["internal/abi.NoEscape"], unfollowed := true, recurses := true, apart := false, narrowed := true }
def WireTextsUptoSaid : Prop := wireTextsUptoRow.holds Try.pinned (OpenSpec.upto wireTextsSpec)

end Rows
end Go.Proofs.Ytjbgcbolakdhaaa
