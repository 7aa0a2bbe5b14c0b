/-
  Numbers and texts that are packed are read as they were, by the reader's steps.
-/
import Derived.Test.YtjpmngjoohoddaaDoorWireF
import Derived.Test.YtjpmngjoohoddaaDoorWireP
set_option linter.unusedVariables false
set_option linter.unusedSimpArgs false
set_option maxRecDepth 20000
namespace Go.Proofs.YtjpmngjoohoddaaDoor
open Go Go.Ab

theorem rNum_pack (n : Nat) (rest : List UInt8) (hn : n ≤ 9007199254740991) : rNum (packN 9 n ++ rest) = some (n, rest) := by
  unfold rNum
  rw [readN_of_pack n rest hn]
  simp

theorem rText_pack (s rest : List UInt8) (hs : s.length ≤ 9007199254740991) : rText (packT s ++ rest) = some (s, rest) := by
  unfold rText packT
  rw [List.append_assoc, rNum_pack _ _ hs]
  simp [rTake]

theorem packT_pos (s : List UInt8) : 1 ≤ (packT s).length := by
  have := List.length_pos_iff.2 (packN_ne 9 s.length)
  simp only [packT, List.length_append]; omega

end Go.Proofs.YtjpmngjoohoddaaDoor
