/-
  The law DigestSums.
-/
import Derived.Test.YtnjgmepacddncaaDoorSumB
import Derived.Test.YtnjgmepacddncaaDoorDigE
set_option linter.unusedVariables false
set_option linter.unusedSimpArgs false
set_option maxRecDepth 20000
namespace Go.Proofs.YtnjgmepacddncaaDoor
open Go Go.Ab

theorem DigestSums_ok (s : List UInt8) (hs : s.length ≤ 70368744177664) : Calc cx 3 [.str s] (.bool true) :=
  pure_intro (fun a w => Tryd.call3 a w) Tryd.func3 rfl Tryd.ntmps3 rfl .bool fun B => by
    refine ab 1000 rfl trivial ?_
    refine S_pure rfl rfl rfl digestBegun_ok (.nil _) ?_
    refine ab 1000 rfl trivial ?_
    refine S_guard rfl rfl rfl rfl (fun _ => ?_) (fun h => by cases h)
    refine ab 1000 rfl trivial ?_
    refine S_pure rfl rfl rfl (Sum_ok s hs) (.cons (.refl .str) (.nil _)) ?_
    refine ab 1000 rfl trivial ?_
    refine S_pure rfl rfl rfl (SumR_ok s hs) (.cons (.refl .str) (.nil _)) ?_
    refine ab 1000 rfl trivial ?_
    refine S_retc .bool rfl trivial ?_
    show AV.bool (sha s == sha s) = _
    simp

end Go.Proofs.YtnjgmepacddncaaDoor
