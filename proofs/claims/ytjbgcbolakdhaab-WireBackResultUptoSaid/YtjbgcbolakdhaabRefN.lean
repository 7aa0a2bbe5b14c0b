/-
  Which numbers may be packed.
-/
import Derived.Test.YtjbgcbolakdhaabBase
set_option linter.unusedVariables false
set_option linter.unusedSimpArgs false
set_option maxRecDepth 20000
namespace Go.Proofs.Ytjbgcbolakdhaab
open Go Go.Ab

theorem IsNumber_ok (n : Int) : Calc cx 34 [.int .i64 n] (.bool (decide (0 ≤ n) && decide (n ≤ 9007199254740991))) :=
  pure_intro (fun a w => Try.call34 a w) Try.func34 rfl Try.ntmps34 rfl .bool fun B => by
    refine ab 1000 rfl trivial ?_
    refine S_guard rfl rfl rfl rfl (fun h => ?_) (fun h => ?_)
    · refine ab 1000 rfl trivial ?_
      refine S_retc .bool rfl trivial ?_
      rw [show decide (0 ≤ n) = true from h]; rfl
    · refine ab 1000 rfl trivial ?_
      refine S_retc .bool rfl trivial ?_
      rw [show decide (0 ≤ n) = false from h]; rfl

end Go.Proofs.Ytjbgcbolakdhaab
