/-
  NARROWER THAN 'FOR EVERY INPUT', by the rows' own cells (each row's printed sentence says how): WirePaths: laid · WireActions: laid · WireReadActions: laid · WireBackAction: laid.
  DERIVED. THE GIVEN ROWS OF THIS SEAT. 4 by the template 'for every input the law returns true; each argument reads behind the call as it read before'; 0 by the template 'total and deterministic' (their statements: YtjpmngjoohoddaaDoorTotals.lean).
  GIVEN WITH THE SEED: the statements are not yours to turn. If you find one false, say at which input.
  Laid BY PROGRAM, IN A SANDBOX (cutbox-rows.mjs): the forced cells as the released guide's own fill.sh prints them over the translation a052b216a68da89a… (all of the seat's roots in one cut). By AI agents, Wed Nov 11 2026. No macro, syntax, notation, axiom, sorry.
-/
import Derived.Test.YtjpmngjoohoddaaDoorChecked
import GoSem.PinnedTables
import GoSem.Claim
import GoSem.ClaimJoined
import GoSem.ClaimMapViews
import Derived.JoinedTies
import Derived.KernelRfl
namespace Go.Proofs.YtjpmngjoohoddaaDoor
/- THE CELL 'sum', in the pinned program and in every row, IS THE sha256 OF THE DUMP (.gsa) THAT YtjpmngjoohoddaaDoorProg.lean LOADS. Nothing in Lean hashes anything: it is a label: what it is worth is what the hold of that sum in a sandbox is worth. -/
noncomputable def Tryd.pinned : Pinned := { name := "ytjpmngjoohoddaadoor", sum := "a052b216a68da89aac66d05ec59522426f686e752ee53bd3c02c6ffad74e5e3b", checked := Tryd.checked }
namespace Rows
def none {H : Type} : Left H := { results := [], args := [] }

/- WHAT THE LISTED PACKAGE-LEVEL VARIABLES READ AS WHEN THE CALL BEGINS. Each datum BY PROGRAM (the guide's laid-datum.mjs) off the statement by which the dump's own 'gosem.cut.vars' lays the variable. In a bare row this is a premise. The card (YtjpmngjoohoddaaDoorCards.lean) ties it to the program's text. -/
def laid_unicode_utf8_acceptRanges {H : Type} : DataW H := .agg [.agg [.lit (.int .u8 128), .lit (.int .u8 191)], .agg [.lit (.int .u8 160), .lit (.int .u8 191)], .agg [.lit (.int .u8 128), .lit (.int .u8 159)], .agg [.lit (.int .u8 144), .lit (.int .u8 191)], .agg [.lit (.int .u8 128), .lit (.int .u8 143)], .agg [.lit (.int .u8 0), .lit (.int .u8 0)], .agg [.lit (.int .u8 0), .lit (.int .u8 0)], .agg [.lit (.int .u8 0), .lit (.int .u8 0)], .agg [.lit (.int .u8 0), .lit (.int .u8 0)], .agg [.lit (.int .u8 0), .lit (.int .u8 0)], .agg [.lit (.int .u8 0), .lit (.int .u8 0)], .agg [.lit (.int .u8 0), .lit (.int .u8 0)], .agg [.lit (.int .u8 0), .lit (.int .u8 0)], .agg [.lit (.int .u8 0), .lit (.int .u8 0)], .agg [.lit (.int .u8 0), .lit (.int .u8 0)], .agg [.lit (.int .u8 0), .lit (.int .u8 0)]]
/-- One of Go's own tables, pinned by name: the form's constant. -/
def laid_unicode_utf8_first : DataW Unit := Go.Pinned.utf8First

/-- 'foundrylaw.WirePaths': WHATEVER THE INPUT: true; the input reads as it did. -/
def wirePathsSpec : ChangeSpec := { name := "wirePaths", fn := fun _ => fun
  | [d] => { results := [.lit (.bool true)], args := [d] }
  | _ => none }
def wirePathsRow : OpenClaim := { program := "ytjpmngjoohoddaadoor", sum := "a052b216a68da89aac66d05ec59522426f686e752ee53bd3c02c6ffad74e5e3b", func := "foundry/foundrylaw.WirePaths", spec := "wirePaths", inPlace := ["internal/abi.NoEscape", "internal/bytealg.CountString", "internal/bytealg.IndexByteString", "internal/bytealg.IndexString"], unfollowed := true, recurses := true, named := ["unicode/utf8.first", "unicode/utf8.acceptRanges", "internal/bytealg.MaxLen"], apart := false, laid := [("unicode/utf8.acceptRanges", laid_unicode_utf8_acceptRanges), ("unicode/utf8.first", laid_unicode_utf8_first)] }
def WirePathsSaid : Prop := wirePathsRow.holds Tryd.pinned (OpenSpec.ofChange wirePathsSpec)

/-- ITS FALSE NEIGHBOUR: 'it returns false'. Refute it at one input. -/
def wirePathsWrong : ChangeSpec := { name := "wirePaths", fn := fun _ => fun
  | [d] => { results := [.lit (.bool false)], args := [d] }
  | _ => none }
def WirePathsWrongFalsely : Prop := wirePathsRow.holds Tryd.pinned (OpenSpec.ofChange wirePathsWrong)

/-- 'foundrylaw.WireActions': WHATEVER THE INPUT: true; the input reads as it did. -/
def wireActionsSpec : ChangeSpec := { name := "wireActions", fn := fun _ => fun
  | [d] => { results := [.lit (.bool true)], args := [d] }
  | _ => none }
def wireActionsRow : OpenClaim := { program := "ytjpmngjoohoddaadoor", sum := "a052b216a68da89aac66d05ec59522426f686e752ee53bd3c02c6ffad74e5e3b", func := "foundry/foundrylaw.WireActions", spec := "wireActions", inPlace := ["internal/bytealg.CountString", "internal/bytealg.IndexByteString", "internal/bytealg.IndexString", "internal/abi.NoEscape"], unfollowed := true, recurses := true, named := ["unicode/utf8.first", "unicode/utf8.acceptRanges", "internal/bytealg.MaxLen"], apart := false, laid := [("unicode/utf8.acceptRanges", laid_unicode_utf8_acceptRanges), ("unicode/utf8.first", laid_unicode_utf8_first)] }
def WireActionsSaid : Prop := wireActionsRow.holds Tryd.pinned (OpenSpec.ofChange wireActionsSpec)

/-- ITS FALSE NEIGHBOUR: 'it returns false'. Refute it at one input. -/
def wireActionsWrong : ChangeSpec := { name := "wireActions", fn := fun _ => fun
  | [d] => { results := [.lit (.bool false)], args := [d] }
  | _ => none }
def WireActionsWrongFalsely : Prop := wireActionsRow.holds Tryd.pinned (OpenSpec.ofChange wireActionsWrong)

/-- 'foundrylaw.WireReadActions': WHATEVER THE INPUT: true; the input reads as it did. -/
def wireReadActionsSpec : ChangeSpec := { name := "wireReadActions", fn := fun _ => fun
  | [d1, d2] => { results := [.lit (.bool true)], args := [d1, d2] }
  | _ => none }
def wireReadActionsRow : OpenClaim := { program := "ytjpmngjoohoddaadoor", sum := "a052b216a68da89aac66d05ec59522426f686e752ee53bd3c02c6ffad74e5e3b", func := "foundry/foundrylaw.WireReadActions", spec := "wireReadActions", inPlace := ["internal/bytealg.CountString", "internal/bytealg.IndexByteString", "internal/bytealg.IndexString", "internal/abi.NoEscape"], unfollowed := true, recurses := true, named := ["unicode/utf8.first", "unicode/utf8.acceptRanges", "internal/bytealg.MaxLen"], apart := false, laid := [("unicode/utf8.acceptRanges", laid_unicode_utf8_acceptRanges), ("unicode/utf8.first", laid_unicode_utf8_first)] }
def WireReadActionsSaid : Prop := wireReadActionsRow.holds Tryd.pinned (OpenSpec.ofChange wireReadActionsSpec)

/-- ITS FALSE NEIGHBOUR: 'it returns false'. Refute it at one input. -/
def wireReadActionsWrong : ChangeSpec := { name := "wireReadActions", fn := fun _ => fun
  | [d1, d2] => { results := [.lit (.bool false)], args := [d1, d2] }
  | _ => none }
def WireReadActionsWrongFalsely : Prop := wireReadActionsRow.holds Tryd.pinned (OpenSpec.ofChange wireReadActionsWrong)

/-- 'foundrylaw.WireBackAction': WHATEVER THE INPUT: true; the input reads as it did. -/
def wireBackActionSpec : ChangeSpec := { name := "wireBackAction", fn := fun _ => fun
  | [d1, d2] => { results := [.lit (.bool true)], args := [d1, d2] }
  | _ => none }
def wireBackActionRow : OpenClaim := { program := "ytjpmngjoohoddaadoor", sum := "a052b216a68da89aac66d05ec59522426f686e752ee53bd3c02c6ffad74e5e3b", func := "foundry/foundrylaw.WireBackAction", spec := "wireBackAction", inPlace := ["internal/abi.NoEscape", "internal/bytealg.CountString", "internal/bytealg.IndexByteString", "internal/bytealg.IndexString"], unfollowed := true, recurses := true, named := ["unicode/utf8.first", "unicode/utf8.acceptRanges", "internal/bytealg.MaxLen"], apart := false, laid := [("unicode/utf8.acceptRanges", laid_unicode_utf8_acceptRanges), ("unicode/utf8.first", laid_unicode_utf8_first)] }
def WireBackActionSaid : Prop := wireBackActionRow.holds Tryd.pinned (OpenSpec.ofChange wireBackActionSpec)

/-- ITS FALSE NEIGHBOUR: 'it returns false'. Refute it at one input. -/
def wireBackActionWrong : ChangeSpec := { name := "wireBackAction", fn := fun _ => fun
  | [d1, d2] => { results := [.lit (.bool false)], args := [d1, d2] }
  | _ => none }
def WireBackActionWrongFalsely : Prop := wireBackActionRow.holds Tryd.pinned (OpenSpec.ofChange wireBackActionWrong)

/- THE SECOND FORM. 'bulk': how many values and letters a reading holds, each counted each time it is reached (what is shared counts as often as it is met; a slice's spare places count too). A statement '..UptoSaid' is the law's where the arguments, and the package variables that the reading takes, are together of bulk at most 1048576: NARROWER than '..Said'. Prove '..Said' where nothing that the law and all that it calls make is longer than what came in: it says more and counts as full. Else prove '..UptoSaid'. A law counts once. -/
mutual
def uptoBulk {H : Type} : DataW H → Nat
  | .lit (.string bytes) => bytes.length + 1
  | .lit _ => 1
  | .nil => 1
  | .ptr d => uptoBulk d + 1
  | .slice elems spare => uptoBulkAll elems + uptoBulkAll spare + 1
  | .agg parts => uptoBulkAll parts + 1
  | .iface _ d => uptoBulk d + 1
  | .map entries => uptoBulkEntries entries + 1
  | .held _ => 1
def uptoBulkAll {H : Type} : List (DataW H) → Nat
  | [] => 0
  | d :: r => uptoBulk d + uptoBulkAll r
def uptoBulkEntries {H : Type} : List (Lit × DataW H) → Nat
  | [] => 0
  | x :: r => uptoBulkEntry x + uptoBulkEntries r
def uptoBulkEntry {H : Type} : Lit × DataW H → Nat
  | (.string bytes, d) => bytes.length + uptoBulk d + 1
  | (_, d) => uptoBulk d + 1
 end
def uptoSmall : (H : Type) → List (DataW H) → Bool := fun _ ds => decide (uptoBulkAll ds ≤ 1048576)
def OpenSpec.upto (s : _root_.Go.ChangeSpec) : _root_.Go.OpenSpec := { _root_.Go.OpenSpec.ofChange s with cond := some uptoSmall }

/-- 'foundrylaw.WirePaths', WHERE WHAT IT READS IS OF BULK AT MOST 1048576: true; the input reads as it did. -/
def wirePathsUptoRow : OpenClaim := { program := "ytjpmngjoohoddaadoor", sum := "a052b216a68da89aac66d05ec59522426f686e752ee53bd3c02c6ffad74e5e3b", func := "foundry/foundrylaw.WirePaths", spec := "wirePaths", inPlace := ["internal/abi.NoEscape", "internal/bytealg.CountString", "internal/bytealg.IndexByteString", "internal/bytealg.IndexString"], unfollowed := true, recurses := true, named := ["unicode/utf8.first", "unicode/utf8.acceptRanges", "internal/bytealg.MaxLen"], apart := false, laid := [("unicode/utf8.acceptRanges", laid_unicode_utf8_acceptRanges), ("unicode/utf8.first", laid_unicode_utf8_first)], narrowed := true }
def WirePathsUptoSaid : Prop := wirePathsUptoRow.holds Tryd.pinned (OpenSpec.upto wirePathsSpec)

/-- 'foundrylaw.WireActions', WHERE WHAT IT READS IS OF BULK AT MOST 1048576: true; the input reads as it did. -/
def wireActionsUptoRow : OpenClaim := { program := "ytjpmngjoohoddaadoor", sum := "a052b216a68da89aac66d05ec59522426f686e752ee53bd3c02c6ffad74e5e3b", func := "foundry/foundrylaw.WireActions", spec := "wireActions", inPlace := ["internal/bytealg.CountString", "internal/bytealg.IndexByteString", "internal/bytealg.IndexString", "internal/abi.NoEscape"], unfollowed := true, recurses := true, named := ["unicode/utf8.first", "unicode/utf8.acceptRanges", "internal/bytealg.MaxLen"], apart := false, laid := [("unicode/utf8.acceptRanges", laid_unicode_utf8_acceptRanges), ("unicode/utf8.first", laid_unicode_utf8_first)], narrowed := true }
def WireActionsUptoSaid : Prop := wireActionsUptoRow.holds Tryd.pinned (OpenSpec.upto wireActionsSpec)

/-- 'foundrylaw.WireReadActions', WHERE WHAT IT READS IS OF BULK AT MOST 1048576: true; the input reads as it did. -/
def wireReadActionsUptoRow : OpenClaim := { program := "ytjpmngjoohoddaadoor", sum := "a052b216a68da89aac66d05ec59522426f686e752ee53bd3c02c6ffad74e5e3b", func := "foundry/foundrylaw.WireReadActions", spec := "wireReadActions", inPlace := ["internal/bytealg.CountString", "internal/bytealg.IndexByteString", "internal/bytealg.IndexString", "internal/abi.NoEscape"], unfollowed := true, recurses := true, named := ["unicode/utf8.first", "unicode/utf8.acceptRanges", "internal/bytealg.MaxLen"], apart := false, laid := [("unicode/utf8.acceptRanges", laid_unicode_utf8_acceptRanges), ("unicode/utf8.first", laid_unicode_utf8_first)], narrowed := true }
def WireReadActionsUptoSaid : Prop := wireReadActionsUptoRow.holds Tryd.pinned (OpenSpec.upto wireReadActionsSpec)

/-- 'foundrylaw.WireBackAction', WHERE WHAT IT READS IS OF BULK AT MOST 1048576: true; the input reads as it did. -/
def wireBackActionUptoRow : OpenClaim := { program := "ytjpmngjoohoddaadoor", sum := "a052b216a68da89aac66d05ec59522426f686e752ee53bd3c02c6ffad74e5e3b", func := "foundry/foundrylaw.WireBackAction", spec := "wireBackAction", inPlace := ["internal/abi.NoEscape", "internal/bytealg.CountString", "internal/bytealg.IndexByteString", "internal/bytealg.IndexString"], unfollowed := true, recurses := true, named := ["unicode/utf8.first", "unicode/utf8.acceptRanges", "internal/bytealg.MaxLen"], apart := false, laid := [("unicode/utf8.acceptRanges", laid_unicode_utf8_acceptRanges), ("unicode/utf8.first", laid_unicode_utf8_first)], narrowed := true }
def WireBackActionUptoSaid : Prop := wireBackActionUptoRow.holds Tryd.pinned (OpenSpec.upto wireBackActionSpec)

end Rows
end Go.Proofs.YtjpmngjoohoddaaDoor
