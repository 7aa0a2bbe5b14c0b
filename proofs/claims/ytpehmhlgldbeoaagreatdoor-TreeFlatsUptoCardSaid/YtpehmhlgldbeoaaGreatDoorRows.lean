/-
  NARROWER THAN 'FOR EVERY INPUT', by the rows' own cells (each row's printed sentence says how): TreeChecks: laid · TreeFlats: laid · TreeBack: laid · TreeRoots: laid · TreeBlobs: laid · TreeMeets: laid · TreeUnders: laid · TreeSame: laid · TreeDiffers: laid · TreeOvers: laid · TreeLays: laid · TreeParts: laid.
  DERIVED. THE GIVEN ROWS OF THIS SEAT. 12 by the template 'for every input the law returns true; each argument reads behind the call as it read before'; 0 by the template 'total and deterministic' (their statements: YtpehmhlgldbeoaaGreatDoorTotals.lean).
  GIVEN WITH THE SEED: the statements are not yours to turn. If you find one false, say at which input.
  Laid BY PROGRAM, IN A SANDBOX (cutbox-rows.mjs): the forced cells as the released guide's own fill.sh prints them over the translation 637ee4ecfddfafc2… (all of the seat's roots in one cut). By AI agents, Wed Nov 11 2026. No macro, syntax, notation, axiom, sorry.
-/
import Derived.Test.YtpehmhlgldbeoaaGreatDoorChecked
import GoSem.PinnedTables
import GoSem.Claim
import GoSem.ClaimJoined
import GoSem.ClaimMapViews
import Derived.JoinedTies
import Derived.KernelRfl
namespace Go.Proofs.YtpehmhlgldbeoaaGreatDoor
/- THE CELL 'sum', in the pinned program and in every row, IS THE sha256 OF THE DUMP (.gsa) THAT YtpehmhlgldbeoaaGreatDoorProg.lean LOADS. Nothing in Lean hashes anything: it is a label: what it is worth is what the hold of that sum in a sandbox is worth. -/
noncomputable def Tryz.pinned : Pinned := { name := "ytpehmhlgldbeoaagreatdoor", sum := "637ee4ecfddfafc275c7f949b8a37338b5bfcdfce69d4452ee0cba7d53123028", checked := Tryz.checked }
namespace Rows
def none {H : Type} : Left H := { results := [], args := [] }

/- WHAT THE LISTED PACKAGE-LEVEL VARIABLES READ AS WHEN THE CALL BEGINS. Each datum BY PROGRAM (the guide's laid-datum.mjs) off the statement by which the dump's own 'gosem.cut.vars' lays the variable. In a bare row this is a premise. The card (YtpehmhlgldbeoaaGreatDoorCards.lean) ties it to the program's text. -/
def laid_unicode_utf8_acceptRanges {H : Type} : DataW H := .agg [.agg [.lit (.int .u8 128), .lit (.int .u8 191)], .agg [.lit (.int .u8 160), .lit (.int .u8 191)], .agg [.lit (.int .u8 128), .lit (.int .u8 159)], .agg [.lit (.int .u8 144), .lit (.int .u8 191)], .agg [.lit (.int .u8 128), .lit (.int .u8 143)], .agg [.lit (.int .u8 0), .lit (.int .u8 0)], .agg [.lit (.int .u8 0), .lit (.int .u8 0)], .agg [.lit (.int .u8 0), .lit (.int .u8 0)], .agg [.lit (.int .u8 0), .lit (.int .u8 0)], .agg [.lit (.int .u8 0), .lit (.int .u8 0)], .agg [.lit (.int .u8 0), .lit (.int .u8 0)], .agg [.lit (.int .u8 0), .lit (.int .u8 0)], .agg [.lit (.int .u8 0), .lit (.int .u8 0)], .agg [.lit (.int .u8 0), .lit (.int .u8 0)], .agg [.lit (.int .u8 0), .lit (.int .u8 0)], .agg [.lit (.int .u8 0), .lit (.int .u8 0)]]
def laid_foundry_digest_first {H : Type} : DataW H := .agg [.lit (.int .u32 1779033703), .lit (.int .u32 3144134277), .lit (.int .u32 1013904242), .lit (.int .u32 2773480762), .lit (.int .u32 1359893119), .lit (.int .u32 2600822924), .lit (.int .u32 528734635), .lit (.int .u32 1541459225)]
def laid_foundry_digest_k {H : Type} : DataW H := .agg [.lit (.int .u32 1116352408), .lit (.int .u32 1899447441), .lit (.int .u32 3049323471), .lit (.int .u32 3921009573), .lit (.int .u32 961987163), .lit (.int .u32 1508970993), .lit (.int .u32 2453635748), .lit (.int .u32 2870763221), .lit (.int .u32 3624381080), .lit (.int .u32 310598401), .lit (.int .u32 607225278), .lit (.int .u32 1426881987), .lit (.int .u32 1925078388), .lit (.int .u32 2162078206), .lit (.int .u32 2614888103), .lit (.int .u32 3248222580), .lit (.int .u32 3835390401), .lit (.int .u32 4022224774), .lit (.int .u32 264347078), .lit (.int .u32 604807628), .lit (.int .u32 770255983), .lit (.int .u32 1249150122), .lit (.int .u32 1555081692), .lit (.int .u32 1996064986), .lit (.int .u32 2554220882), .lit (.int .u32 2821834349), .lit (.int .u32 2952996808), .lit (.int .u32 3210313671), .lit (.int .u32 3336571891), .lit (.int .u32 3584528711), .lit (.int .u32 113926993), .lit (.int .u32 338241895), .lit (.int .u32 666307205), .lit (.int .u32 773529912), .lit (.int .u32 1294757372), .lit (.int .u32 1396182291), .lit (.int .u32 1695183700), .lit (.int .u32 1986661051), .lit (.int .u32 2177026350), .lit (.int .u32 2456956037), .lit (.int .u32 2730485921), .lit (.int .u32 2820302411), .lit (.int .u32 3259730800), .lit (.int .u32 3345764771), .lit (.int .u32 3516065817), .lit (.int .u32 3600352804), .lit (.int .u32 4094571909), .lit (.int .u32 275423344), .lit (.int .u32 430227734), .lit (.int .u32 506948616), .lit (.int .u32 659060556), .lit (.int .u32 883997877), .lit (.int .u32 958139571), .lit (.int .u32 1322822218), .lit (.int .u32 1537002063), .lit (.int .u32 1747873779), .lit (.int .u32 1955562222), .lit (.int .u32 2024104815), .lit (.int .u32 2227730452), .lit (.int .u32 2361852424), .lit (.int .u32 2428436474), .lit (.int .u32 2756734187), .lit (.int .u32 3204031479), .lit (.int .u32 3329325298)]
/-- One of Go's own tables, pinned by name: the form's constant. -/
def laid_unicode_utf8_first : DataW Unit := Go.Pinned.utf8First

/-- 'foundrylaw.TreeChecks': WHATEVER THE INPUT: true; the input reads as it did. -/
def treeChecksSpec : ChangeSpec := { name := "treeChecks", fn := fun _ => fun
  | [d] => { results := [.lit (.bool true)], args := [d] }
  | _ => none }
def treeChecksRow : OpenClaim := { program := "ytpehmhlgldbeoaagreatdoor", sum := "637ee4ecfddfafc275c7f949b8a37338b5bfcdfce69d4452ee0cba7d53123028", func := "foundry/foundrylaw.TreeChecks", spec := "treeChecks", inPlace := ["internal/bytealg.CountString", "internal/bytealg.IndexByteString", "internal/bytealg.IndexString", "internal/abi.NoEscape"], unfollowed := true, recurses := true, named := ["unicode/utf8.first", "unicode/utf8.acceptRanges", "internal/bytealg.MaxLen", "foundry/digest.first", "foundry/digest.k"], plainKeys := false, apart := false, laid := [("unicode/utf8.acceptRanges", laid_unicode_utf8_acceptRanges), ("foundry/digest.first", laid_foundry_digest_first), ("foundry/digest.k", laid_foundry_digest_k), ("unicode/utf8.first", laid_unicode_utf8_first)] }
def TreeChecksSaid : Prop := treeChecksRow.holds Tryz.pinned (OpenSpec.ofChange treeChecksSpec)

/-- ITS FALSE NEIGHBOUR: 'it returns false'. Refute it at one input. -/
def treeChecksWrong : ChangeSpec := { name := "treeChecks", fn := fun _ => fun
  | [d] => { results := [.lit (.bool false)], args := [d] }
  | _ => none }
def TreeChecksWrongFalsely : Prop := treeChecksRow.holds Tryz.pinned (OpenSpec.ofChange treeChecksWrong)

/-- 'foundrylaw.TreeFlats': WHATEVER THE INPUT: true; the input reads as it did. -/
def treeFlatsSpec : ChangeSpec := { name := "treeFlats", fn := fun _ => fun
  | [d1, d2] => { results := [.lit (.bool true)], args := [d1, d2] }
  | _ => none }
def treeFlatsRow : OpenClaim := { program := "ytpehmhlgldbeoaagreatdoor", sum := "637ee4ecfddfafc275c7f949b8a37338b5bfcdfce69d4452ee0cba7d53123028", func := "foundry/foundrylaw.TreeFlats", spec := "treeFlats", inPlace := ["internal/bytealg.IndexByteString", "internal/bytealg.IndexString", "internal/abi.NoEscape", "internal/bytealg.CountString"], unfollowed := true, recurses := true, named := ["foundry/digest.first", "foundry/digest.k", "unicode/utf8.first", "unicode/utf8.acceptRanges", "internal/bytealg.MaxLen"], plainKeys := false, apart := false, laid := [("unicode/utf8.acceptRanges", laid_unicode_utf8_acceptRanges), ("foundry/digest.first", laid_foundry_digest_first), ("foundry/digest.k", laid_foundry_digest_k), ("unicode/utf8.first", laid_unicode_utf8_first)] }
def TreeFlatsSaid : Prop := treeFlatsRow.holds Tryz.pinned (OpenSpec.ofChange treeFlatsSpec)

/-- ITS FALSE NEIGHBOUR: 'it returns false'. Refute it at one input. -/
def treeFlatsWrong : ChangeSpec := { name := "treeFlats", fn := fun _ => fun
  | [d1, d2] => { results := [.lit (.bool false)], args := [d1, d2] }
  | _ => none }
def TreeFlatsWrongFalsely : Prop := treeFlatsRow.holds Tryz.pinned (OpenSpec.ofChange treeFlatsWrong)

/-- 'foundrylaw.TreeBack': WHATEVER THE INPUT: true; the input reads as it did. -/
def treeBackSpec : ChangeSpec := { name := "treeBack", fn := fun _ => fun
  | [d1, d2] => { results := [.lit (.bool true)], args := [d1, d2] }
  | _ => none }
def treeBackRow : OpenClaim := { program := "ytpehmhlgldbeoaagreatdoor", sum := "637ee4ecfddfafc275c7f949b8a37338b5bfcdfce69d4452ee0cba7d53123028", func := "foundry/foundrylaw.TreeBack", spec := "treeBack", inPlace := ["internal/bytealg.CountString", "internal/bytealg.IndexByteString", "internal/bytealg.IndexString", "internal/abi.NoEscape"], unfollowed := true, recurses := true, named := ["unicode/utf8.first", "unicode/utf8.acceptRanges", "internal/bytealg.MaxLen", "foundry/digest.first", "foundry/digest.k"], plainKeys := false, apart := false, laid := [("unicode/utf8.acceptRanges", laid_unicode_utf8_acceptRanges), ("foundry/digest.first", laid_foundry_digest_first), ("foundry/digest.k", laid_foundry_digest_k), ("unicode/utf8.first", laid_unicode_utf8_first)] }
def TreeBackSaid : Prop := treeBackRow.holds Tryz.pinned (OpenSpec.ofChange treeBackSpec)

/-- ITS FALSE NEIGHBOUR: 'it returns false'. Refute it at one input. -/
def treeBackWrong : ChangeSpec := { name := "treeBack", fn := fun _ => fun
  | [d1, d2] => { results := [.lit (.bool false)], args := [d1, d2] }
  | _ => none }
def TreeBackWrongFalsely : Prop := treeBackRow.holds Tryz.pinned (OpenSpec.ofChange treeBackWrong)

/-- 'foundrylaw.TreeRoots': WHATEVER THE INPUT: true; the input reads as it did. -/
def treeRootsSpec : ChangeSpec := { name := "treeRoots", fn := fun _ => fun
  | [d] => { results := [.lit (.bool true)], args := [d] }
  | _ => none }
def treeRootsRow : OpenClaim := { program := "ytpehmhlgldbeoaagreatdoor", sum := "637ee4ecfddfafc275c7f949b8a37338b5bfcdfce69d4452ee0cba7d53123028", func := "foundry/foundrylaw.TreeRoots", spec := "treeRoots", inPlace := ["internal/bytealg.CountString", "internal/bytealg.IndexByteString", "internal/bytealg.IndexString", "internal/abi.NoEscape"], unfollowed := true, recurses := true, named := ["unicode/utf8.first", "unicode/utf8.acceptRanges", "internal/bytealg.MaxLen", "foundry/digest.first", "foundry/digest.k"], plainKeys := false, apart := false, laid := [("unicode/utf8.acceptRanges", laid_unicode_utf8_acceptRanges), ("foundry/digest.first", laid_foundry_digest_first), ("foundry/digest.k", laid_foundry_digest_k), ("unicode/utf8.first", laid_unicode_utf8_first)] }
def TreeRootsSaid : Prop := treeRootsRow.holds Tryz.pinned (OpenSpec.ofChange treeRootsSpec)

/-- ITS FALSE NEIGHBOUR: 'it returns false'. Refute it at one input. -/
def treeRootsWrong : ChangeSpec := { name := "treeRoots", fn := fun _ => fun
  | [d] => { results := [.lit (.bool false)], args := [d] }
  | _ => none }
def TreeRootsWrongFalsely : Prop := treeRootsRow.holds Tryz.pinned (OpenSpec.ofChange treeRootsWrong)

/-- 'foundrylaw.TreeBlobs': WHATEVER THE INPUT: true; the input reads as it did. -/
def treeBlobsSpec : ChangeSpec := { name := "treeBlobs", fn := fun _ => fun
  | [d] => { results := [.lit (.bool true)], args := [d] }
  | _ => none }
def treeBlobsRow : OpenClaim := { program := "ytpehmhlgldbeoaagreatdoor", sum := "637ee4ecfddfafc275c7f949b8a37338b5bfcdfce69d4452ee0cba7d53123028", func := "foundry/foundrylaw.TreeBlobs", spec := "treeBlobs", inPlace := ["internal/bytealg.CountString", "internal/bytealg.IndexByteString", "internal/bytealg.IndexString", "internal/abi.NoEscape"], unfollowed := true, recurses := true, named := ["unicode/utf8.first", "unicode/utf8.acceptRanges", "internal/bytealg.MaxLen", "foundry/digest.first", "foundry/digest.k"], plainKeys := false, apart := false, laid := [("unicode/utf8.acceptRanges", laid_unicode_utf8_acceptRanges), ("foundry/digest.first", laid_foundry_digest_first), ("foundry/digest.k", laid_foundry_digest_k), ("unicode/utf8.first", laid_unicode_utf8_first)] }
def TreeBlobsSaid : Prop := treeBlobsRow.holds Tryz.pinned (OpenSpec.ofChange treeBlobsSpec)

/-- ITS FALSE NEIGHBOUR: 'it returns false'. Refute it at one input. -/
def treeBlobsWrong : ChangeSpec := { name := "treeBlobs", fn := fun _ => fun
  | [d] => { results := [.lit (.bool false)], args := [d] }
  | _ => none }
def TreeBlobsWrongFalsely : Prop := treeBlobsRow.holds Tryz.pinned (OpenSpec.ofChange treeBlobsWrong)

/-- 'foundrylaw.TreeMeets': WHATEVER THE INPUT: true; the input reads as it did. -/
def treeMeetsSpec : ChangeSpec := { name := "treeMeets", fn := fun _ => fun
  | [d1, d2] => { results := [.lit (.bool true)], args := [d1, d2] }
  | _ => none }
def treeMeetsRow : OpenClaim := { program := "ytpehmhlgldbeoaagreatdoor", sum := "637ee4ecfddfafc275c7f949b8a37338b5bfcdfce69d4452ee0cba7d53123028", func := "foundry/foundrylaw.TreeMeets", spec := "treeMeets", inPlace := ["internal/bytealg.CountString", "internal/bytealg.IndexByteString", "internal/bytealg.IndexString", "internal/abi.NoEscape"], unfollowed := true, recurses := true, named := ["unicode/utf8.first", "unicode/utf8.acceptRanges", "internal/bytealg.MaxLen", "foundry/digest.first", "foundry/digest.k"], plainKeys := false, apart := false, laid := [("unicode/utf8.acceptRanges", laid_unicode_utf8_acceptRanges), ("foundry/digest.first", laid_foundry_digest_first), ("foundry/digest.k", laid_foundry_digest_k), ("unicode/utf8.first", laid_unicode_utf8_first)] }
def TreeMeetsSaid : Prop := treeMeetsRow.holds Tryz.pinned (OpenSpec.ofChange treeMeetsSpec)

/-- ITS FALSE NEIGHBOUR: 'it returns false'. Refute it at one input. -/
def treeMeetsWrong : ChangeSpec := { name := "treeMeets", fn := fun _ => fun
  | [d1, d2] => { results := [.lit (.bool false)], args := [d1, d2] }
  | _ => none }
def TreeMeetsWrongFalsely : Prop := treeMeetsRow.holds Tryz.pinned (OpenSpec.ofChange treeMeetsWrong)

/-- 'foundrylaw.TreeUnders': WHATEVER THE INPUT: true; the input reads as it did. -/
def treeUndersSpec : ChangeSpec := { name := "treeUnders", fn := fun _ => fun
  | [d1, d2] => { results := [.lit (.bool true)], args := [d1, d2] }
  | _ => none }
def treeUndersRow : OpenClaim := { program := "ytpehmhlgldbeoaagreatdoor", sum := "637ee4ecfddfafc275c7f949b8a37338b5bfcdfce69d4452ee0cba7d53123028", func := "foundry/foundrylaw.TreeUnders", spec := "treeUnders", inPlace := ["internal/bytealg.CountString", "internal/bytealg.IndexByteString", "internal/bytealg.IndexString", "internal/abi.NoEscape"], unfollowed := true, recurses := true, named := ["unicode/utf8.first", "unicode/utf8.acceptRanges", "internal/bytealg.MaxLen", "foundry/digest.first", "foundry/digest.k"], plainKeys := false, apart := false, laid := [("unicode/utf8.acceptRanges", laid_unicode_utf8_acceptRanges), ("foundry/digest.first", laid_foundry_digest_first), ("foundry/digest.k", laid_foundry_digest_k), ("unicode/utf8.first", laid_unicode_utf8_first)] }
def TreeUndersSaid : Prop := treeUndersRow.holds Tryz.pinned (OpenSpec.ofChange treeUndersSpec)

/-- ITS FALSE NEIGHBOUR: 'it returns false'. Refute it at one input. -/
def treeUndersWrong : ChangeSpec := { name := "treeUnders", fn := fun _ => fun
  | [d1, d2] => { results := [.lit (.bool false)], args := [d1, d2] }
  | _ => none }
def TreeUndersWrongFalsely : Prop := treeUndersRow.holds Tryz.pinned (OpenSpec.ofChange treeUndersWrong)

/-- 'foundrylaw.TreeSame': WHATEVER THE INPUT: true; the input reads as it did. -/
def treeSameSpec : ChangeSpec := { name := "treeSame", fn := fun _ => fun
  | [d1, d2] => { results := [.lit (.bool true)], args := [d1, d2] }
  | _ => none }
def treeSameRow : OpenClaim := { program := "ytpehmhlgldbeoaagreatdoor", sum := "637ee4ecfddfafc275c7f949b8a37338b5bfcdfce69d4452ee0cba7d53123028", func := "foundry/foundrylaw.TreeSame", spec := "treeSame", inPlace := ["internal/bytealg.CountString", "internal/bytealg.IndexByteString", "internal/bytealg.IndexString", "internal/abi.NoEscape"], unfollowed := true, recurses := true, named := ["unicode/utf8.first", "unicode/utf8.acceptRanges", "internal/bytealg.MaxLen", "foundry/digest.first", "foundry/digest.k"], plainKeys := false, apart := false, laid := [("unicode/utf8.acceptRanges", laid_unicode_utf8_acceptRanges), ("foundry/digest.first", laid_foundry_digest_first), ("foundry/digest.k", laid_foundry_digest_k), ("unicode/utf8.first", laid_unicode_utf8_first)] }
def TreeSameSaid : Prop := treeSameRow.holds Tryz.pinned (OpenSpec.ofChange treeSameSpec)

/-- ITS FALSE NEIGHBOUR: 'it returns false'. Refute it at one input. -/
def treeSameWrong : ChangeSpec := { name := "treeSame", fn := fun _ => fun
  | [d1, d2] => { results := [.lit (.bool false)], args := [d1, d2] }
  | _ => none }
def TreeSameWrongFalsely : Prop := treeSameRow.holds Tryz.pinned (OpenSpec.ofChange treeSameWrong)

/-- 'foundrylaw.TreeDiffers': WHATEVER THE INPUT: true; the input reads as it did. -/
def treeDiffersSpec : ChangeSpec := { name := "treeDiffers", fn := fun _ => fun
  | [d1, d2] => { results := [.lit (.bool true)], args := [d1, d2] }
  | _ => none }
def treeDiffersRow : OpenClaim := { program := "ytpehmhlgldbeoaagreatdoor", sum := "637ee4ecfddfafc275c7f949b8a37338b5bfcdfce69d4452ee0cba7d53123028", func := "foundry/foundrylaw.TreeDiffers", spec := "treeDiffers", inPlace := ["internal/bytealg.CountString", "internal/bytealg.IndexByteString", "internal/bytealg.IndexString", "internal/abi.NoEscape"], unfollowed := true, recurses := true, named := ["unicode/utf8.first", "unicode/utf8.acceptRanges", "internal/bytealg.MaxLen", "foundry/digest.first", "foundry/digest.k"], plainKeys := false, apart := false, laid := [("unicode/utf8.acceptRanges", laid_unicode_utf8_acceptRanges), ("foundry/digest.first", laid_foundry_digest_first), ("foundry/digest.k", laid_foundry_digest_k), ("unicode/utf8.first", laid_unicode_utf8_first)] }
def TreeDiffersSaid : Prop := treeDiffersRow.holds Tryz.pinned (OpenSpec.ofChange treeDiffersSpec)

/-- ITS FALSE NEIGHBOUR: 'it returns false'. Refute it at one input. -/
def treeDiffersWrong : ChangeSpec := { name := "treeDiffers", fn := fun _ => fun
  | [d1, d2] => { results := [.lit (.bool false)], args := [d1, d2] }
  | _ => none }
def TreeDiffersWrongFalsely : Prop := treeDiffersRow.holds Tryz.pinned (OpenSpec.ofChange treeDiffersWrong)

/-- 'foundrylaw.TreeOvers': WHATEVER THE INPUT: true; the input reads as it did. -/
def treeOversSpec : ChangeSpec := { name := "treeOvers", fn := fun _ => fun
  | [d1, d2] => { results := [.lit (.bool true)], args := [d1, d2] }
  | _ => none }
def treeOversRow : OpenClaim := { program := "ytpehmhlgldbeoaagreatdoor", sum := "637ee4ecfddfafc275c7f949b8a37338b5bfcdfce69d4452ee0cba7d53123028", func := "foundry/foundrylaw.TreeOvers", spec := "treeOvers", inPlace := ["internal/bytealg.CountString", "internal/bytealg.IndexByteString", "internal/bytealg.IndexString", "internal/abi.NoEscape"], unfollowed := true, recurses := true, named := ["unicode/utf8.first", "unicode/utf8.acceptRanges", "internal/bytealg.MaxLen", "foundry/digest.first", "foundry/digest.k"], plainKeys := false, apart := false, laid := [("unicode/utf8.acceptRanges", laid_unicode_utf8_acceptRanges), ("foundry/digest.first", laid_foundry_digest_first), ("foundry/digest.k", laid_foundry_digest_k), ("unicode/utf8.first", laid_unicode_utf8_first)] }
def TreeOversSaid : Prop := treeOversRow.holds Tryz.pinned (OpenSpec.ofChange treeOversSpec)

/-- ITS FALSE NEIGHBOUR: 'it returns false'. Refute it at one input. -/
def treeOversWrong : ChangeSpec := { name := "treeOvers", fn := fun _ => fun
  | [d1, d2] => { results := [.lit (.bool false)], args := [d1, d2] }
  | _ => none }
def TreeOversWrongFalsely : Prop := treeOversRow.holds Tryz.pinned (OpenSpec.ofChange treeOversWrong)

/-- 'foundrylaw.TreeLays': WHATEVER THE INPUT: true; the input reads as it did. -/
def treeLaysSpec : ChangeSpec := { name := "treeLays", fn := fun _ => fun
  | [d1, d2, d3] => { results := [.lit (.bool true)], args := [d1, d2, d3] }
  | _ => none }
def treeLaysRow : OpenClaim := { program := "ytpehmhlgldbeoaagreatdoor", sum := "637ee4ecfddfafc275c7f949b8a37338b5bfcdfce69d4452ee0cba7d53123028", func := "foundry/foundrylaw.TreeLays", spec := "treeLays", inPlace := ["internal/bytealg.CountString", "internal/bytealg.IndexByteString", "internal/bytealg.IndexString", "internal/abi.NoEscape"], unfollowed := true, recurses := true, named := ["unicode/utf8.first", "unicode/utf8.acceptRanges", "internal/bytealg.MaxLen", "foundry/digest.first", "foundry/digest.k"], plainKeys := false, apart := false, laid := [("unicode/utf8.acceptRanges", laid_unicode_utf8_acceptRanges), ("foundry/digest.first", laid_foundry_digest_first), ("foundry/digest.k", laid_foundry_digest_k), ("unicode/utf8.first", laid_unicode_utf8_first)] }
def TreeLaysSaid : Prop := treeLaysRow.holds Tryz.pinned (OpenSpec.ofChange treeLaysSpec)

/-- ITS FALSE NEIGHBOUR: 'it returns false'. Refute it at one input. -/
def treeLaysWrong : ChangeSpec := { name := "treeLays", fn := fun _ => fun
  | [d1, d2, d3] => { results := [.lit (.bool false)], args := [d1, d2, d3] }
  | _ => none }
def TreeLaysWrongFalsely : Prop := treeLaysRow.holds Tryz.pinned (OpenSpec.ofChange treeLaysWrong)

/-- 'foundrylaw.TreeParts': WHATEVER THE INPUT: true; the input reads as it did. -/
def treePartsSpec : ChangeSpec := { name := "treeParts", fn := fun _ => fun
  | [d1, d2, d3] => { results := [.lit (.bool true)], args := [d1, d2, d3] }
  | _ => none }
def treePartsRow : OpenClaim := { program := "ytpehmhlgldbeoaagreatdoor", sum := "637ee4ecfddfafc275c7f949b8a37338b5bfcdfce69d4452ee0cba7d53123028", func := "foundry/foundrylaw.TreeParts", spec := "treeParts", inPlace := ["internal/bytealg.CountString", "internal/bytealg.IndexByteString", "internal/bytealg.IndexString", "internal/abi.NoEscape"], unfollowed := true, recurses := true, named := ["unicode/utf8.first", "unicode/utf8.acceptRanges", "internal/bytealg.MaxLen", "foundry/digest.first", "foundry/digest.k"], plainKeys := false, apart := false, laid := [("unicode/utf8.acceptRanges", laid_unicode_utf8_acceptRanges), ("foundry/digest.first", laid_foundry_digest_first), ("foundry/digest.k", laid_foundry_digest_k), ("unicode/utf8.first", laid_unicode_utf8_first)] }
def TreePartsSaid : Prop := treePartsRow.holds Tryz.pinned (OpenSpec.ofChange treePartsSpec)

/-- ITS FALSE NEIGHBOUR: 'it returns false'. Refute it at one input. -/
def treePartsWrong : ChangeSpec := { name := "treeParts", fn := fun _ => fun
  | [d1, d2, d3] => { results := [.lit (.bool false)], args := [d1, d2, d3] }
  | _ => none }
def TreePartsWrongFalsely : Prop := treePartsRow.holds Tryz.pinned (OpenSpec.ofChange treePartsWrong)

/- THE SECOND FORM. 'bulk': how many values and letters a reading holds, each counted each time it is reached (what is shared counts as often as it is met; a slice's spare places count too). A statement '..UptoSaid' is the law's where the arguments, and the package variables that the reading takes, are together of bulk at most 1048576: NARROWER than '..Said'. Prove '..Said' where nothing that the law and all that it calls make is longer than what came in: it says more and counts as full. Else prove '..UptoSaid'. A law counts once. -/
mutual
def uptoBulk {H : Type} : DataW H → Nat
  | .lit (.string bytes) => bytes.length + 1
  | .lit _ => 1
  | .nil => 1
  | .ptr d => uptoBulk d + 1
  | .slice elems spare => uptoBulkAll elems + uptoBulkAll spare + 1
  | .agg parts => uptoBulkAll parts + 1
  | .iface _ d => uptoBulk d + 1
  | .map entries => uptoBulkEntries entries + 1
  | .held _ => 1
def uptoBulkAll {H : Type} : List (DataW H) → Nat
  | [] => 0
  | d :: r => uptoBulk d + uptoBulkAll r
def uptoBulkEntries {H : Type} : List (Lit × DataW H) → Nat
  | [] => 0
  | x :: r => uptoBulkEntry x + uptoBulkEntries r
def uptoBulkEntry {H : Type} : Lit × DataW H → Nat
  | (.string bytes, d) => bytes.length + uptoBulk d + 1
  | (_, d) => uptoBulk d + 1
 end
def uptoSmall : (H : Type) → List (DataW H) → Bool := fun _ ds => decide (uptoBulkAll ds ≤ 1048576)
def OpenSpec.upto (s : _root_.Go.ChangeSpec) : _root_.Go.OpenSpec := { _root_.Go.OpenSpec.ofChange s with cond := some uptoSmall }

/-- 'foundrylaw.TreeChecks', WHERE WHAT IT READS IS OF BULK AT MOST 1048576: true; the input reads as it did. -/
def treeChecksUptoRow : OpenClaim := { program := "ytpehmhlgldbeoaagreatdoor", sum := "637ee4ecfddfafc275c7f949b8a37338b5bfcdfce69d4452ee0cba7d53123028", func := "foundry/foundrylaw.TreeChecks", spec := "treeChecks", inPlace := ["internal/bytealg.CountString", "internal/bytealg.IndexByteString", "internal/bytealg.IndexString", "internal/abi.NoEscape"], unfollowed := true, recurses := true, named := ["unicode/utf8.first", "unicode/utf8.acceptRanges", "internal/bytealg.MaxLen", "foundry/digest.first", "foundry/digest.k"], plainKeys := false, apart := false, laid := [("unicode/utf8.acceptRanges", laid_unicode_utf8_acceptRanges), ("foundry/digest.first", laid_foundry_digest_first), ("foundry/digest.k", laid_foundry_digest_k), ("unicode/utf8.first", laid_unicode_utf8_first)], narrowed := true }
def TreeChecksUptoSaid : Prop := treeChecksUptoRow.holds Tryz.pinned (OpenSpec.upto treeChecksSpec)

/-- 'foundrylaw.TreeFlats', WHERE WHAT IT READS IS OF BULK AT MOST 1048576: true; the input reads as it did. -/
def treeFlatsUptoRow : OpenClaim := { program := "ytpehmhlgldbeoaagreatdoor", sum := "637ee4ecfddfafc275c7f949b8a37338b5bfcdfce69d4452ee0cba7d53123028", func := "foundry/foundrylaw.TreeFlats", spec := "treeFlats", inPlace := ["internal/bytealg.IndexByteString", "internal/bytealg.IndexString", "internal/abi.NoEscape", "internal/bytealg.CountString"], unfollowed := true, recurses := true, named := ["foundry/digest.first", "foundry/digest.k", "unicode/utf8.first", "unicode/utf8.acceptRanges", "internal/bytealg.MaxLen"], plainKeys := false, apart := false, laid := [("unicode/utf8.acceptRanges", laid_unicode_utf8_acceptRanges), ("foundry/digest.first", laid_foundry_digest_first), ("foundry/digest.k", laid_foundry_digest_k), ("unicode/utf8.first", laid_unicode_utf8_first)], narrowed := true }
def TreeFlatsUptoSaid : Prop := treeFlatsUptoRow.holds Tryz.pinned (OpenSpec.upto treeFlatsSpec)

/-- 'foundrylaw.TreeBack', WHERE WHAT IT READS IS OF BULK AT MOST 1048576: true; the input reads as it did. -/
def treeBackUptoRow : OpenClaim := { program := "ytpehmhlgldbeoaagreatdoor", sum := "637ee4ecfddfafc275c7f949b8a37338b5bfcdfce69d4452ee0cba7d53123028", func := "foundry/foundrylaw.TreeBack", spec := "treeBack", inPlace := ["internal/bytealg.CountString", "internal/bytealg.IndexByteString", "internal/bytealg.IndexString", "internal/abi.NoEscape"], unfollowed := true, recurses := true, named := ["unicode/utf8.first", "unicode/utf8.acceptRanges", "internal/bytealg.MaxLen", "foundry/digest.first", "foundry/digest.k"], plainKeys := false, apart := false, laid := [("unicode/utf8.acceptRanges", laid_unicode_utf8_acceptRanges), ("foundry/digest.first", laid_foundry_digest_first), ("foundry/digest.k", laid_foundry_digest_k), ("unicode/utf8.first", laid_unicode_utf8_first)], narrowed := true }
def TreeBackUptoSaid : Prop := treeBackUptoRow.holds Tryz.pinned (OpenSpec.upto treeBackSpec)

/-- 'foundrylaw.TreeRoots', WHERE WHAT IT READS IS OF BULK AT MOST 1048576: true; the input reads as it did. -/
def treeRootsUptoRow : OpenClaim := { program := "ytpehmhlgldbeoaagreatdoor", sum := "637ee4ecfddfafc275c7f949b8a37338b5bfcdfce69d4452ee0cba7d53123028", func := "foundry/foundrylaw.TreeRoots", spec := "treeRoots", inPlace := ["internal/bytealg.CountString", "internal/bytealg.IndexByteString", "internal/bytealg.IndexString", "internal/abi.NoEscape"], unfollowed := true, recurses := true, named := ["unicode/utf8.first", "unicode/utf8.acceptRanges", "internal/bytealg.MaxLen", "foundry/digest.first", "foundry/digest.k"], plainKeys := false, apart := false, laid := [("unicode/utf8.acceptRanges", laid_unicode_utf8_acceptRanges), ("foundry/digest.first", laid_foundry_digest_first), ("foundry/digest.k", laid_foundry_digest_k), ("unicode/utf8.first", laid_unicode_utf8_first)], narrowed := true }
def TreeRootsUptoSaid : Prop := treeRootsUptoRow.holds Tryz.pinned (OpenSpec.upto treeRootsSpec)

/-- 'foundrylaw.TreeBlobs', WHERE WHAT IT READS IS OF BULK AT MOST 1048576: true; the input reads as it did. -/
def treeBlobsUptoRow : OpenClaim := { program := "ytpehmhlgldbeoaagreatdoor", sum := "637ee4ecfddfafc275c7f949b8a37338b5bfcdfce69d4452ee0cba7d53123028", func := "foundry/foundrylaw.TreeBlobs", spec := "treeBlobs", inPlace := ["internal/bytealg.CountString", "internal/bytealg.IndexByteString", "internal/bytealg.IndexString", "internal/abi.NoEscape"], unfollowed := true, recurses := true, named := ["unicode/utf8.first", "unicode/utf8.acceptRanges", "internal/bytealg.MaxLen", "foundry/digest.first", "foundry/digest.k"], plainKeys := false, apart := false, laid := [("unicode/utf8.acceptRanges", laid_unicode_utf8_acceptRanges), ("foundry/digest.first", laid_foundry_digest_first), ("foundry/digest.k", laid_foundry_digest_k), ("unicode/utf8.first", laid_unicode_utf8_first)], narrowed := true }
def TreeBlobsUptoSaid : Prop := treeBlobsUptoRow.holds Tryz.pinned (OpenSpec.upto treeBlobsSpec)

/-- 'foundrylaw.TreeMeets', WHERE WHAT IT READS IS OF BULK AT MOST 1048576: true; the input reads as it did. -/
def treeMeetsUptoRow : OpenClaim := { program := "ytpehmhlgldbeoaagreatdoor", sum := "637ee4ecfddfafc275c7f949b8a37338b5bfcdfce69d4452ee0cba7d53123028", func := "foundry/foundrylaw.TreeMeets", spec := "treeMeets", inPlace := ["internal/bytealg.CountString", "internal/bytealg.IndexByteString", "internal/bytealg.IndexString", "internal/abi.NoEscape"], unfollowed := true, recurses := true, named := ["unicode/utf8.first", "unicode/utf8.acceptRanges", "internal/bytealg.MaxLen", "foundry/digest.first", "foundry/digest.k"], plainKeys := false, apart := false, laid := [("unicode/utf8.acceptRanges", laid_unicode_utf8_acceptRanges), ("foundry/digest.first", laid_foundry_digest_first), ("foundry/digest.k", laid_foundry_digest_k), ("unicode/utf8.first", laid_unicode_utf8_first)], narrowed := true }
def TreeMeetsUptoSaid : Prop := treeMeetsUptoRow.holds Tryz.pinned (OpenSpec.upto treeMeetsSpec)

/-- 'foundrylaw.TreeUnders', WHERE WHAT IT READS IS OF BULK AT MOST 1048576: true; the input reads as it did. -/
def treeUndersUptoRow : OpenClaim := { program := "ytpehmhlgldbeoaagreatdoor", sum := "637ee4ecfddfafc275c7f949b8a37338b5bfcdfce69d4452ee0cba7d53123028", func := "foundry/foundrylaw.TreeUnders", spec := "treeUnders", inPlace := ["internal/bytealg.CountString", "internal/bytealg.IndexByteString", "internal/bytealg.IndexString", "internal/abi.NoEscape"], unfollowed := true, recurses := true, named := ["unicode/utf8.first", "unicode/utf8.acceptRanges", "internal/bytealg.MaxLen", "foundry/digest.first", "foundry/digest.k"], plainKeys := false, apart := false, laid := [("unicode/utf8.acceptRanges", laid_unicode_utf8_acceptRanges), ("foundry/digest.first", laid_foundry_digest_first), ("foundry/digest.k", laid_foundry_digest_k), ("unicode/utf8.first", laid_unicode_utf8_first)], narrowed := true }
def TreeUndersUptoSaid : Prop := treeUndersUptoRow.holds Tryz.pinned (OpenSpec.upto treeUndersSpec)

/-- 'foundrylaw.TreeSame', WHERE WHAT IT READS IS OF BULK AT MOST 1048576: true; the input reads as it did. -/
def treeSameUptoRow : OpenClaim := { program := "ytpehmhlgldbeoaagreatdoor", sum := "637ee4ecfddfafc275c7f949b8a37338b5bfcdfce69d4452ee0cba7d53123028", func := "foundry/foundrylaw.TreeSame", spec := "treeSame", inPlace := ["internal/bytealg.CountString", "internal/bytealg.IndexByteString", "internal/bytealg.IndexString", "internal/abi.NoEscape"], unfollowed := true, recurses := true, named := ["unicode/utf8.first", "unicode/utf8.acceptRanges", "internal/bytealg.MaxLen", "foundry/digest.first", "foundry/digest.k"], plainKeys := false, apart := false, laid := [("unicode/utf8.acceptRanges", laid_unicode_utf8_acceptRanges), ("foundry/digest.first", laid_foundry_digest_first), ("foundry/digest.k", laid_foundry_digest_k), ("unicode/utf8.first", laid_unicode_utf8_first)], narrowed := true }
def TreeSameUptoSaid : Prop := treeSameUptoRow.holds Tryz.pinned (OpenSpec.upto treeSameSpec)

/-- 'foundrylaw.TreeDiffers', WHERE WHAT IT READS IS OF BULK AT MOST 1048576: true; the input reads as it did. -/
def treeDiffersUptoRow : OpenClaim := { program := "ytpehmhlgldbeoaagreatdoor", sum := "637ee4ecfddfafc275c7f949b8a37338b5bfcdfce69d4452ee0cba7d53123028", func := "foundry/foundrylaw.TreeDiffers", spec := "treeDiffers", inPlace := ["internal/bytealg.CountString", "internal/bytealg.IndexByteString", "internal/bytealg.IndexString", "internal/abi.NoEscape"], unfollowed := true, recurses := true, named := ["unicode/utf8.first", "unicode/utf8.acceptRanges", "internal/bytealg.MaxLen", "foundry/digest.first", "foundry/digest.k"], plainKeys := false, apart := false, laid := [("unicode/utf8.acceptRanges", laid_unicode_utf8_acceptRanges), ("foundry/digest.first", laid_foundry_digest_first), ("foundry/digest.k", laid_foundry_digest_k), ("unicode/utf8.first", laid_unicode_utf8_first)], narrowed := true }
def TreeDiffersUptoSaid : Prop := treeDiffersUptoRow.holds Tryz.pinned (OpenSpec.upto treeDiffersSpec)

/-- 'foundrylaw.TreeOvers', WHERE WHAT IT READS IS OF BULK AT MOST 1048576: true; the input reads as it did. -/
def treeOversUptoRow : OpenClaim := { program := "ytpehmhlgldbeoaagreatdoor", sum := "637ee4ecfddfafc275c7f949b8a37338b5bfcdfce69d4452ee0cba7d53123028", func := "foundry/foundrylaw.TreeOvers", spec := "treeOvers", inPlace := ["internal/bytealg.CountString", "internal/bytealg.IndexByteString", "internal/bytealg.IndexString", "internal/abi.NoEscape"], unfollowed := true, recurses := true, named := ["unicode/utf8.first", "unicode/utf8.acceptRanges", "internal/bytealg.MaxLen", "foundry/digest.first", "foundry/digest.k"], plainKeys := false, apart := false, laid := [("unicode/utf8.acceptRanges", laid_unicode_utf8_acceptRanges), ("foundry/digest.first", laid_foundry_digest_first), ("foundry/digest.k", laid_foundry_digest_k), ("unicode/utf8.first", laid_unicode_utf8_first)], narrowed := true }
def TreeOversUptoSaid : Prop := treeOversUptoRow.holds Tryz.pinned (OpenSpec.upto treeOversSpec)

/-- 'foundrylaw.TreeLays', WHERE WHAT IT READS IS OF BULK AT MOST 1048576: true; the input reads as it did. -/
def treeLaysUptoRow : OpenClaim := { program := "ytpehmhlgldbeoaagreatdoor", sum := "637ee4ecfddfafc275c7f949b8a37338b5bfcdfce69d4452ee0cba7d53123028", func := "foundry/foundrylaw.TreeLays", spec := "treeLays", inPlace := ["internal/bytealg.CountString", "internal/bytealg.IndexByteString", "internal/bytealg.IndexString", "internal/abi.NoEscape"], unfollowed := true, recurses := true, named := ["unicode/utf8.first", "unicode/utf8.acceptRanges", "internal/bytealg.MaxLen", "foundry/digest.first", "foundry/digest.k"], plainKeys := false, apart := false, laid := [("unicode/utf8.acceptRanges", laid_unicode_utf8_acceptRanges), ("foundry/digest.first", laid_foundry_digest_first), ("foundry/digest.k", laid_foundry_digest_k), ("unicode/utf8.first", laid_unicode_utf8_first)], narrowed := true }
def TreeLaysUptoSaid : Prop := treeLaysUptoRow.holds Tryz.pinned (OpenSpec.upto treeLaysSpec)

/-- 'foundrylaw.TreeParts', WHERE WHAT IT READS IS OF BULK AT MOST 1048576: true; the input reads as it did. -/
def treePartsUptoRow : OpenClaim := { program := "ytpehmhlgldbeoaagreatdoor", sum := "637ee4ecfddfafc275c7f949b8a37338b5bfcdfce69d4452ee0cba7d53123028", func := "foundry/foundrylaw.TreeParts", spec := "treeParts", inPlace := ["internal/bytealg.CountString", "internal/bytealg.IndexByteString", "internal/bytealg.IndexString", "internal/abi.NoEscape"], unfollowed := true, recurses := true, named := ["unicode/utf8.first", "unicode/utf8.acceptRanges", "internal/bytealg.MaxLen", "foundry/digest.first", "foundry/digest.k"], plainKeys := false, apart := false, laid := [("unicode/utf8.acceptRanges", laid_unicode_utf8_acceptRanges), ("foundry/digest.first", laid_foundry_digest_first), ("foundry/digest.k", laid_foundry_digest_k), ("unicode/utf8.first", laid_unicode_utf8_first)], narrowed := true }
def TreePartsUptoSaid : Prop := treePartsUptoRow.holds Tryz.pinned (OpenSpec.upto treePartsSpec)

end Rows
end Go.Proofs.YtpehmhlgldbeoaaGreatDoor
