/-
  A text beside an error.
-/
import Derived.Test.YtjpmngjoohoddabDoorBase
set_option linter.unusedVariables false
set_option linter.unusedSimpArgs false
set_option maxRecDepth 20000
namespace Go.Proofs.YtjpmngjoohoddabDoor
open Go Go.Ab

theorem textIs_ok (s want : List UInt8) (e w : Nat) : Calc cx 16 [.str s, .int .i64 e, .int .i64 w, .str want] (.bool (e == w && s == (if w = 0 then want else []))) :=
  pure_intro (fun a w => Tryd.call16 a w) Tryd.func16 rfl Tryd.ntmps16 rfl .bool fun B => by
    refine ab 1000 rfl trivial ?_
    have fin : ∀ (want' : List UInt8) (B : Bool), (((e : Nat) : Int) == ((w : Nat) : Int)) = (e == w) := by
      intro _ _
      by_cases h : e = w
      · subst h; simp
      · have : ((e : Nat) : Int) ≠ w := by omega
        rw [beq_eq_false_iff_ne.2 this, beq_eq_false_iff_ne.2 h]
    refine S_bne rfl (fun h => ?_) (fun h => ?_)
    · have hw : w ≠ 0 := by omega
      rw [if_neg hw]
      refine ab 1000 rfl trivial ?_
      refine S_guard rfl rfl rfl rfl (fun hg => ?_) (fun hg => ?_)
      · refine ab 1000 rfl trivial ?_
        refine S_retc .bool rfl trivial ?_
        rw [← fin [] true, hg]; simp; rfl
      · refine ab 1000 rfl trivial ?_
        refine S_retc .bool rfl trivial ?_
        rw [← fin [] true, hg]; rfl
    · have hw : w = 0 := by omega
      rw [if_pos hw]
      refine ab 1000 rfl trivial ?_
      refine S_guard rfl rfl rfl rfl (fun hg => ?_) (fun hg => ?_)
      · refine ab 1000 rfl trivial ?_
        refine S_retc .bool rfl trivial ?_
        rw [← fin [] true, hg]; rfl
      · refine ab 1000 rfl trivial ?_
        refine S_retc .bool rfl trivial ?_
        rw [← fin [] true, hg]; rfl

end Go.Proofs.YtjpmngjoohoddabDoor
