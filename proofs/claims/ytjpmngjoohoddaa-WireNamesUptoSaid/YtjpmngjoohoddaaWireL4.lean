/-
  The law WireNames.
-/
import Derived.Test.YtjpmngjoohoddaaNameB
import Derived.Test.YtjpmngjoohoddaaWireF
set_option linter.unusedVariables false
set_option linter.unusedSimpArgs false
set_option maxRecDepth 20000
namespace Go.Proofs.Ytjpmngjoohoddaa
open Go Go.Ab

theorem WireNames_ok (s : List UInt8) (hs : s.length ≤ 9223372036854775806) : Calc cx 7 [.str s] (.bool true) :=
  pure_intro (fun a w => Try.call7 a w) Try.func7 rfl Try.ntmps7 rfl .bool fun B => by
    refine ab 1000 rfl trivial ?_
    refine S_pure rfl rfl rfl wireBegun_ok (.nil _) ?_
    refine ab 1000 rfl trivial ?_
    refine S_guard rfl rfl rfl rfl (fun _ => ?_) (fun h => by cases h)
    refine ab 1000 rfl trivial ?_
    have h1 : isName [97, 46, 98] = true := by decide
    have h2 := isName_ok [97, 46, 98] (by decide)
    rw [h1] at h2
    refine S_pure rfl rfl rfl h2 (.cons (.refl .str) (.nil _)) ?_
    refine ab 1000 rfl trivial ?_
    refine S_guard rfl rfl rfl rfl (fun _ => ?_) (fun h => by cases h)
    refine ab 1000 rfl trivial ?_
    refine S_pure rfl rfl rfl (isName_ok s hs) (.cons (.refl .str) (.nil _)) ?_
    refine ab 1000 rfl trivial ?_
    refine S_pure rfl rfl rfl (IsName_ok s hs) (.cons (.refl .str) (.nil _)) ?_
    refine ab 1000 rfl trivial ?_
    refine S_retc .bool rfl trivial ?_
    show AV.bool (isName s == isName s) = _
    rw [beq_self_eq_true]

end Go.Proofs.Ytjpmngjoohoddaa
