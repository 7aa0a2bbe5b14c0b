/-
  A text packed by the reference.
-/
import Derived.Test.YtjpmngjoohoddaaDoorWireB
set_option linter.unusedVariables false
set_option linter.unusedSimpArgs false
set_option maxRecDepth 20000
namespace Go.Proofs.YtjpmngjoohoddaaDoor
open Go Go.Ab

theorem PackText_ok (s : List UInt8) (hs : s.length ≤ 9007199254740991) : Calc cx 39 [.str s] (.str (packN 9 s.length ++ s)) :=
  pure_intro (fun a w => Tryd.call39 a w) Tryd.func39 rfl Tryd.ntmps39 rfl .str fun B => by
    refine ab 1000 rfl trivial ?_
    refine S_pure rfl rfl rfl (PackNumber_ok s.length hs) (.cons (.refl .int) (.nil _)) ?_
    have := packN_len 9 s.length
    refine ab 1000 rfl ⟨by omega, trivial⟩ ?_
    exact S_retc .str rfl trivial rfl

end Go.Proofs.YtjpmngjoohoddaaDoor
