/-
  Which numbers may be packed.
-/
import Derived.Test.YtjpmngjoohoddaaDoorBase
set_option linter.unusedVariables false
set_option linter.unusedSimpArgs false
set_option maxRecDepth 20000
namespace Go.Proofs.YtjpmngjoohoddaaDoor
open Go Go.Ab

theorem IsNumber_ok (n : Int) : Calc cx 37 [.int .i64 n] (.bool (decide (0 ≤ n) && decide (n ≤ 9007199254740991))) :=
  pure_intro (fun a w => Tryd.call37 a w) Tryd.func37 rfl Tryd.ntmps37 rfl .bool fun B => by
    refine ab 1000 rfl trivial ?_
    refine S_guard rfl rfl rfl rfl (fun h => ?_) (fun h => ?_)
    · refine ab 1000 rfl trivial ?_
      refine S_retc .bool rfl trivial ?_
      rw [show decide (0 ≤ n) = true from h]; rfl
    · refine ab 1000 rfl trivial ?_
      refine S_retc .bool rfl trivial ?_
      rw [show decide (0 ≤ n) = false from h]; rfl

end Go.Proofs.YtjpmngjoohoddaaDoor
