/-
  NARROWER THAN 'FOR EVERY INPUT', by the rows' own cells (each row's printed sentence says how): TokenSplits: laid · TokenLevels: laid · TokenStands: laid · TokenEmpty: laid.
  DERIVED. THE GIVEN ROWS OF THIS SEAT. 4 by the template 'for every input the law returns true; each argument reads behind the call as it read before'; 0 by the template 'total and deterministic' (their statements: YtkgmbnjdeokdkaaDoorTotals.lean).
  GIVEN WITH THE SEED: the statements are not yours to turn. If you find one false, say at which input.
  Laid BY PROGRAM, IN A SANDBOX (cutbox-rows.mjs): the forced cells as the released guide's own fill.sh prints them over the translation 9ee00a3e9bf02ab1… (all of the seat's roots in one cut). By AI agents, Wed Nov 11 2026. No macro, syntax, notation, axiom, sorry.
-/
import Derived.Test.YtkgmbnjdeokdkaaDoorChecked
import GoSem.Claim
import GoSem.ClaimJoined
import GoSem.ClaimMapViews
import Derived.JoinedTies
import Derived.KernelRfl
namespace Go.Proofs.YtkgmbnjdeokdkaaDoor
/- THE CELL 'sum', in the pinned program and in every row, IS THE sha256 OF THE DUMP (.gsa) THAT YtkgmbnjdeokdkaaDoorProg.lean LOADS. Nothing in Lean hashes anything: it is a label: what it is worth is what the hold of that sum in a sandbox is worth. -/
noncomputable def Tryd.pinned : Pinned := { name := "ytkgmbnjdeokdkaadoor", sum := "9ee00a3e9bf02ab1039b489b13ad100e9736b489612bf4d0e3c5b47a32da13bd", checked := Tryd.checked }
namespace Rows
def none {H : Type} : Left H := { results := [], args := [] }

/- WHAT THE LISTED PACKAGE-LEVEL VARIABLES READ AS WHEN THE CALL BEGINS. Each datum BY PROGRAM (the guide's laid-datum.mjs) off the statement by which the dump's own 'gosem.cut.vars' lays the variable. In a bare row this is a premise. The card (YtkgmbnjdeokdkaaDoorCards.lean) ties it to the program's text. -/
def laid_foundry_token_words {H : Type} : DataW H := .slice [.lit (.string [97, 110, 100]), .lit (.string [111, 114]), .lit (.string [110, 111, 116]), .lit (.string [105, 110]), .lit (.string [105, 102]), .lit (.string [101, 108, 115, 101]), .lit (.string [102, 111, 114]), .lit (.string [100, 101, 102]), .lit (.string [114, 101, 116, 117, 114, 110]), .lit (.string [112, 97, 115, 115]), .lit (.string [84, 114, 117, 101]), .lit (.string [70, 97, 108, 115, 101]), .lit (.string [78, 111, 110, 101]), .lit (.string [108, 111, 97, 100])] []
def laid_foundry_token_signs {H : Type} : DataW H := .slice [.lit (.string [61, 61]), .lit (.string [33, 61]), .lit (.string [60, 61]), .lit (.string [47, 47]), .lit (.string [61]), .lit (.string [60]), .lit (.string [43]), .lit (.string [45]), .lit (.string [42]), .lit (.string [37]), .lit (.string [40]), .lit (.string [41]), .lit (.string [91]), .lit (.string [93]), .lit (.string [123]), .lit (.string [125]), .lit (.string [44]), .lit (.string [58])] []

/-- 'foundrylaw.TokenSplits': WHATEVER THE INPUT: true; the input reads as it did. -/
def tokenSplitsSpec : ChangeSpec := { name := "tokenSplits", fn := fun _ => fun
  | [d] => { results := [.lit (.bool true)], args := [d] }
  | _ => none }
def tokenSplitsRow : OpenClaim := { program := "ytkgmbnjdeokdkaadoor", sum := "9ee00a3e9bf02ab1039b489b13ad100e9736b489612bf4d0e3c5b47a32da13bd", func := "foundry/foundrylaw.TokenSplits", spec := "tokenSplits", inPlace := ["internal/bytealg.IndexByteString", "internal/abi.NoEscape", "internal/bytealg.IndexString"], unfollowed := true, recurses := true, named := ["foundry/token.words", "foundry/token.signs", "internal/bytealg.MaxLen"], apart := false, laid := [("foundry/token.words", laid_foundry_token_words), ("foundry/token.signs", laid_foundry_token_signs)] }
def TokenSplitsSaid : Prop := tokenSplitsRow.holds Tryd.pinned (OpenSpec.ofChange tokenSplitsSpec)

/-- ITS FALSE NEIGHBOUR: 'it returns false'. Refute it at one input. -/
def tokenSplitsWrong : ChangeSpec := { name := "tokenSplits", fn := fun _ => fun
  | [d] => { results := [.lit (.bool false)], args := [d] }
  | _ => none }
def TokenSplitsWrongFalsely : Prop := tokenSplitsRow.holds Tryd.pinned (OpenSpec.ofChange tokenSplitsWrong)

/-- 'foundrylaw.TokenLevels': WHATEVER THE INPUT: true; the input reads as it did. -/
def tokenLevelsSpec : ChangeSpec := { name := "tokenLevels", fn := fun _ => fun
  | [d] => { results := [.lit (.bool true)], args := [d] }
  | _ => none }
def tokenLevelsRow : OpenClaim := { program := "ytkgmbnjdeokdkaadoor", sum := "9ee00a3e9bf02ab1039b489b13ad100e9736b489612bf4d0e3c5b47a32da13bd", func := "foundry/foundrylaw.TokenLevels", spec := "tokenLevels", inPlace := ["internal/bytealg.IndexByteString", "internal/abi.NoEscape", "internal/bytealg.IndexString"], unfollowed := true, recurses := true, named := ["foundry/token.words", "foundry/token.signs", "internal/bytealg.MaxLen"], apart := false, laid := [("foundry/token.words", laid_foundry_token_words), ("foundry/token.signs", laid_foundry_token_signs)] }
def TokenLevelsSaid : Prop := tokenLevelsRow.holds Tryd.pinned (OpenSpec.ofChange tokenLevelsSpec)

/-- ITS FALSE NEIGHBOUR: 'it returns false'. Refute it at one input. -/
def tokenLevelsWrong : ChangeSpec := { name := "tokenLevels", fn := fun _ => fun
  | [d] => { results := [.lit (.bool false)], args := [d] }
  | _ => none }
def TokenLevelsWrongFalsely : Prop := tokenLevelsRow.holds Tryd.pinned (OpenSpec.ofChange tokenLevelsWrong)

/-- 'foundrylaw.TokenStands': WHATEVER THE INPUT: true; the input reads as it did. -/
def tokenStandsSpec : ChangeSpec := { name := "tokenStands", fn := fun _ => fun
  | [d] => { results := [.lit (.bool true)], args := [d] }
  | _ => none }
def tokenStandsRow : OpenClaim := { program := "ytkgmbnjdeokdkaadoor", sum := "9ee00a3e9bf02ab1039b489b13ad100e9736b489612bf4d0e3c5b47a32da13bd", func := "foundry/foundrylaw.TokenStands", spec := "tokenStands", inPlace := ["internal/bytealg.IndexByteString", "internal/abi.NoEscape", "internal/bytealg.IndexString"], unfollowed := true, recurses := true, named := ["foundry/token.words", "foundry/token.signs", "internal/bytealg.MaxLen"], apart := false, laid := [("foundry/token.words", laid_foundry_token_words), ("foundry/token.signs", laid_foundry_token_signs)] }
def TokenStandsSaid : Prop := tokenStandsRow.holds Tryd.pinned (OpenSpec.ofChange tokenStandsSpec)

/-- ITS FALSE NEIGHBOUR: 'it returns false'. Refute it at one input. -/
def tokenStandsWrong : ChangeSpec := { name := "tokenStands", fn := fun _ => fun
  | [d] => { results := [.lit (.bool false)], args := [d] }
  | _ => none }
def TokenStandsWrongFalsely : Prop := tokenStandsRow.holds Tryd.pinned (OpenSpec.ofChange tokenStandsWrong)

/-- 'foundrylaw.TokenEmpty': WHATEVER THE INPUT: true; the input reads as it did. -/
def tokenEmptySpec : ChangeSpec := { name := "tokenEmpty", fn := fun _ => fun
  | [d1, d2] => { results := [.lit (.bool true)], args := [d1, d2] }
  | _ => none }
def tokenEmptyRow : OpenClaim := { program := "ytkgmbnjdeokdkaadoor", sum := "9ee00a3e9bf02ab1039b489b13ad100e9736b489612bf4d0e3c5b47a32da13bd", func := "foundry/foundrylaw.TokenEmpty", spec := "tokenEmpty", inPlace := ["internal/bytealg.IndexByteString", "internal/abi.NoEscape", "internal/bytealg.IndexString"], unfollowed := true, recurses := true, named := ["foundry/token.words", "foundry/token.signs", "internal/bytealg.MaxLen"], apart := false, laid := [("foundry/token.words", laid_foundry_token_words), ("foundry/token.signs", laid_foundry_token_signs)] }
def TokenEmptySaid : Prop := tokenEmptyRow.holds Tryd.pinned (OpenSpec.ofChange tokenEmptySpec)

/-- ITS FALSE NEIGHBOUR: 'it returns false'. Refute it at one input. -/
def tokenEmptyWrong : ChangeSpec := { name := "tokenEmpty", fn := fun _ => fun
  | [d1, d2] => { results := [.lit (.bool false)], args := [d1, d2] }
  | _ => none }
def TokenEmptyWrongFalsely : Prop := tokenEmptyRow.holds Tryd.pinned (OpenSpec.ofChange tokenEmptyWrong)

/- THE SECOND FORM. 'bulk': how many values and letters a reading holds, each counted each time it is reached (what is shared counts as often as it is met; a slice's spare places count too). A statement '..UptoSaid' is the law's where the arguments, and the package variables that the reading takes, are together of bulk at most 1048576: NARROWER than '..Said'. Prove '..Said' where nothing that the law and all that it calls make is longer than what came in: it says more and counts as full. Else prove '..UptoSaid'. A law counts once. -/
mutual
def uptoBulk {H : Type} : DataW H → Nat
  | .lit (.string bytes) => bytes.length + 1
  | .lit _ => 1
  | .nil => 1
  | .ptr d => uptoBulk d + 1
  | .slice elems spare => uptoBulkAll elems + uptoBulkAll spare + 1
  | .agg parts => uptoBulkAll parts + 1
  | .iface _ d => uptoBulk d + 1
  | .map entries => uptoBulkEntries entries + 1
  | .held _ => 1
def uptoBulkAll {H : Type} : List (DataW H) → Nat
  | [] => 0
  | d :: r => uptoBulk d + uptoBulkAll r
def uptoBulkEntries {H : Type} : List (Lit × DataW H) → Nat
  | [] => 0
  | x :: r => uptoBulkEntry x + uptoBulkEntries r
def uptoBulkEntry {H : Type} : Lit × DataW H → Nat
  | (.string bytes, d) => bytes.length + uptoBulk d + 1
  | (_, d) => uptoBulk d + 1
 end
def uptoSmall : (H : Type) → List (DataW H) → Bool := fun _ ds => decide (uptoBulkAll ds ≤ 1048576)
def OpenSpec.upto (s : _root_.Go.ChangeSpec) : _root_.Go.OpenSpec := { _root_.Go.OpenSpec.ofChange s with cond := some uptoSmall }

/-- 'foundrylaw.TokenSplits', WHERE WHAT IT READS IS OF BULK AT MOST 1048576: true; the input reads as it did. -/
def tokenSplitsUptoRow : OpenClaim := { program := "ytkgmbnjdeokdkaadoor", sum := "9ee00a3e9bf02ab1039b489b13ad100e9736b489612bf4d0e3c5b47a32da13bd", func := "foundry/foundrylaw.TokenSplits", spec := "tokenSplits", inPlace := ["internal/bytealg.IndexByteString", "internal/abi.NoEscape", "internal/bytealg.IndexString"], unfollowed := true, recurses := true, named := ["foundry/token.words", "foundry/token.signs", "internal/bytealg.MaxLen"], apart := false, laid := [("foundry/token.words", laid_foundry_token_words), ("foundry/token.signs", laid_foundry_token_signs)], narrowed := true }
def TokenSplitsUptoSaid : Prop := tokenSplitsUptoRow.holds Tryd.pinned (OpenSpec.upto tokenSplitsSpec)

/-- 'foundrylaw.TokenLevels', WHERE WHAT IT READS IS OF BULK AT MOST 1048576: true; the input reads as it did. -/
def tokenLevelsUptoRow : OpenClaim := { program := "ytkgmbnjdeokdkaadoor", sum := "9ee00a3e9bf02ab1039b489b13ad100e9736b489612bf4d0e3c5b47a32da13bd", func := "foundry/foundrylaw.TokenLevels", spec := "tokenLevels", inPlace := ["internal/bytealg.IndexByteString", "internal/abi.NoEscape", "internal/bytealg.IndexString"], unfollowed := true, recurses := true, named := ["foundry/token.words", "foundry/token.signs", "internal/bytealg.MaxLen"], apart := false, laid := [("foundry/token.words", laid_foundry_token_words), ("foundry/token.signs", laid_foundry_token_signs)], narrowed := true }
def TokenLevelsUptoSaid : Prop := tokenLevelsUptoRow.holds Tryd.pinned (OpenSpec.upto tokenLevelsSpec)

/-- 'foundrylaw.TokenStands', WHERE WHAT IT READS IS OF BULK AT MOST 1048576: true; the input reads as it did. -/
def tokenStandsUptoRow : OpenClaim := { program := "ytkgmbnjdeokdkaadoor", sum := "9ee00a3e9bf02ab1039b489b13ad100e9736b489612bf4d0e3c5b47a32da13bd", func := "foundry/foundrylaw.TokenStands", spec := "tokenStands", inPlace := ["internal/bytealg.IndexByteString", "internal/abi.NoEscape", "internal/bytealg.IndexString"], unfollowed := true, recurses := true, named := ["foundry/token.words", "foundry/token.signs", "internal/bytealg.MaxLen"], apart := false, laid := [("foundry/token.words", laid_foundry_token_words), ("foundry/token.signs", laid_foundry_token_signs)], narrowed := true }
def TokenStandsUptoSaid : Prop := tokenStandsUptoRow.holds Tryd.pinned (OpenSpec.upto tokenStandsSpec)

/-- 'foundrylaw.TokenEmpty', WHERE WHAT IT READS IS OF BULK AT MOST 1048576: true; the input reads as it did. -/
def tokenEmptyUptoRow : OpenClaim := { program := "ytkgmbnjdeokdkaadoor", sum := "9ee00a3e9bf02ab1039b489b13ad100e9736b489612bf4d0e3c5b47a32da13bd", func := "foundry/foundrylaw.TokenEmpty", spec := "tokenEmpty", inPlace := ["internal/bytealg.IndexByteString", "internal/abi.NoEscape", "internal/bytealg.IndexString"], unfollowed := true, recurses := true, named := ["foundry/token.words", "foundry/token.signs", "internal/bytealg.MaxLen"], apart := false, laid := [("foundry/token.words", laid_foundry_token_words), ("foundry/token.signs", laid_foundry_token_signs)], narrowed := true }
def TokenEmptyUptoSaid : Prop := tokenEmptyUptoRow.holds Tryd.pinned (OpenSpec.upto tokenEmptySpec)

end Rows
end Go.Proofs.YtkgmbnjdeokdkaaDoor
