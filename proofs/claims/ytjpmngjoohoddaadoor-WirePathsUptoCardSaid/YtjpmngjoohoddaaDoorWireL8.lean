/-
  The law WirePaths.
-/
import Derived.Test.YtjpmngjoohoddaaDoorPathB
import Derived.Test.YtjpmngjoohoddaaDoorWireF
set_option linter.unusedVariables false
set_option linter.unusedSimpArgs false
set_option maxRecDepth 20000
namespace Go.Proofs.YtjpmngjoohoddaaDoor
open Go Go.Ab

theorem WirePaths_ok (s : List UInt8) (hs : s.length ≤ 1099511627776) : Calc cx 3 [.str s] (.bool true) :=
  pure_intro (fun a w => Tryd.call3 a w) Tryd.func3 rfl Tryd.ntmps3 rfl .bool fun B => by
    have hab : Calc cx 8 [.str [97, 47, 98]] (.bool true) := by
      have := isPath_ok [97, 47, 98] (by decide)
      rwa [show isPathB [97, 47, 98] = true by decide +kernel] at this
    refine ab 1000 rfl trivial ?_
    refine S_pure rfl rfl rfl wireBegun_ok (.nil _) ?_
    refine ab 1000 rfl trivial ?_
    refine S_guard rfl rfl rfl rfl (fun _ => ?_) (fun h => by cases h)
    refine ab 1000 rfl trivial ?_
    refine S_pure rfl rfl rfl hab (.cons (.refl .str) (.nil _)) ?_
    refine ab 1000 rfl trivial ?_
    refine S_guard rfl rfl rfl rfl (fun _ => ?_) (fun h => by cases h)
    refine ab 1000 rfl trivial ?_
    refine S_pure rfl rfl rfl (isPath_ok s hs) (.cons (.refl .str) (.nil _)) ?_
    refine ab 1000 rfl trivial ?_
    refine S_guard rfl rfl rfl rfl (fun _ => ?_) (fun h => by cases h)
    refine ab 1000 rfl trivial ?_
    refine S_pure rfl rfl rfl (IsPath_ok s (by omega)) (.cons (.refl .str) (.nil _)) ?_
    refine ab 1000 rfl trivial ?_
    refine S_retc .bool rfl trivial ?_
    show AV.bool (isPathB s == isPathB s) = _
    simp

end Go.Proofs.YtjpmngjoohoddaaDoor
