/-
  The law DigestPairs.
-/
import Derived.Test.YtjpmngjoohoddabDoorDigP
import Derived.Test.YtjpmngjoohoddabDoorRefI
set_option linter.unusedVariables false
set_option linter.unusedSimpArgs false
set_option maxRecDepth 20000
namespace Go.Proofs.YtjpmngjoohoddabDoor
open Go Go.Ab

theorem DigestPairs_ok (a b : List UInt8) (ha : a.length ≤ 1048576) (hb : b.length ≤ 1048576) : Calc cx 3 [.str a, .str b] (.bool true) :=
  pure_intro (fun a w => Tryd.call3 a w) Tryd.func3 rfl Tryd.ntmps3 rfl .bool fun B => by
    refine ab 1000 rfl trivial ?_
    refine S_pure rfl rfl rfl (Pair_ok a b (by omega) (by omega)) (.cons (.refl .str) (.cons (.refl .str) (.nil _))) ?_
    refine ab 1000 rfl trivial ?_
    refine S_pure rfl rfl rfl (IsDigest_ok a (by omega)) (.cons (.refl .str) (.nil _)) ?_
    refine ab 1000 rfl trivial ?_
    cases ha' : isDig a with
    | false =>
      refine S_guard rfl rfl rfl rfl (fun h => by cases h) (fun _ => ?_)
      refine ab 1000 rfl trivial ?_
      refine S_cond rfl (fun h => by cases h) (fun _ => ?_)
      refine ab 1000 rfl trivial ?_
      refine S_pure rfl rfl rfl digestBegun_ok (.nil _) ?_
      refine ab 1000 rfl trivial ?_
      refine S_guard rfl rfl rfl rfl (fun _ => ?_) (fun h => by cases h)
      refine ab 1000 rfl trivial ?_
      refine S_pure rfl rfl rfl (textIs_ok [] [] 1 1) (.cons (.refl .str) (.cons (.refl .int) (.cons (.refl .int) (.cons (.refl .str) (.nil _))))) ?_
      refine ab 1000 rfl trivial ?_
      exact S_retc .bool rfl trivial rfl
    | true =>
    refine S_guard rfl rfl rfl rfl (fun _ => ?_) (fun h => by cases h)
    refine ab 1000 rfl trivial ?_
    refine S_pure rfl rfl rfl (IsDigest_ok b (by omega)) (.cons (.refl .str) (.nil _)) ?_
    refine ab 1000 rfl trivial ?_
    cases hb' : isDig b with
    | false =>
      refine S_cond rfl (fun h => by cases h) (fun _ => ?_)
      refine ab 1000 rfl trivial ?_
      refine S_pure rfl rfl rfl digestBegun_ok (.nil _) ?_
      refine ab 1000 rfl trivial ?_
      refine S_guard rfl rfl rfl rfl (fun _ => ?_) (fun h => by cases h)
      refine ab 1000 rfl trivial ?_
      refine S_pure rfl rfl rfl (textIs_ok [] [] 1 1) (.cons (.refl .str) (.cons (.refl .int) (.cons (.refl .int) (.cons (.refl .str) (.nil _))))) ?_
      refine ab 1000 rfl trivial ?_
      exact S_retc .bool rfl trivial rfl
    | true =>
      refine S_cond rfl (fun _ => ?_) (fun h => by cases h)
      refine ab 1000 rfl trivial ?_
      refine S_pure rfl rfl rfl (PairOf_ok a b ha' hb') (.cons (.refl .str) (.cons (.refl .str) (.nil _))) ?_
      refine ab 1000 rfl trivial ?_
      refine S_pure rfl rfl rfl digestBegun_ok (.nil _) ?_
      refine ab 1000 rfl trivial ?_
      refine S_guard rfl rfl rfl rfl (fun _ => ?_) (fun h => by cases h)
      refine ab 1000 rfl trivial ?_
      refine S_pure rfl rfl rfl (textIs_ok (pairS a b) (pairS a b) 0 0) (.cons (.refl .str) (.cons (.refl .int) (.cons (.refl .int) (.cons (.refl .str) (.nil _))))) ?_
      refine ab 1000 rfl trivial ?_
      refine S_retc .bool rfl trivial ?_
      show AV.bool _ = _
      simp

end Go.Proofs.YtjpmngjoohoddabDoor
