/-
  The law WireNodes.
-/
import Derived.Test.YtjpmngjoohoddaaNodeE
import Derived.Test.YtjpmngjoohoddaaWireF
import Derived.Test.YtjpmngjoohoddaaRefI
set_option linter.unusedVariables false
set_option linter.unusedSimpArgs false
set_option maxRecDepth 20000
namespace Go.Proofs.Ytjpmngjoohoddaa
open Go Go.Ab

theorem WireNodes_ok (l : List NodeV) (hl : NodesOk l) : Calc cx 8 [.sl true false 3 (nodes l)] (.bool true) :=
  pure_intro (fun a w => Try.call8 a w) Try.func8 rfl Try.ntmps8 rfl .bool fun B => by
    have lend : ∀ σ : Heap, Frz false σ (.sl true false 3 (nodes l)) (.sl true false 3 (nodes l)) := fun σ => .refl (.sl (fun h => by cases h) (nodes_any l))
    refine ab 1000 rfl trivial ?_
    refine S_pure rfl rfl rfl (Nodes_ok (st := true) (fl := false) l hl) (.cons (lend _) (.nil _)) ?_
    refine ab 1000 rfl trivial ?_
    refine S_pure rfl rfl rfl (CheckNodes_ok (st := true) (fl := false) l hl) (.cons (lend _) (.nil _)) ?_
    refine ab 1000 rfl trivial ?_
    refine S_beq rfl (fun hc => ?_) (fun hc => ?_)
    · have hc : chkN l = 0 := by have : ((chkN l : Nat) : Int) = 0 := hc; omega
      rw [hc, if_pos rfl]
      refine ab 1000 rfl trivial ?_
      refine S_pure rfl rfl rfl (PackNodes_ok (st := true) (fl := false) l (chk_fit hc)) (.cons (lend _) (.nil _)) ?_
      refine ab 1000 rfl trivial ?_
      refine S_pure rfl rfl rfl wireBegun_ok (.nil _) ?_
      refine ab 1000 rfl trivial ?_
      refine S_guard rfl rfl rfl rfl (fun _ => ?_) (fun h => by cases h)
      refine ab 1000 rfl trivial ?_
      refine S_pure rfl rfl rfl (textIs_ok (packNs l) (packNs l) 0 0) (.cons (.refl .str) (.cons (.refl .int) (.cons (.refl .int) (.cons (.refl .str) (.nil _))))) ?_
      refine ab 1000 rfl trivial ?_
      refine S_retc .bool rfl trivial ?_
      show AV.bool _ = _
      simp
    · have hc : chkN l ≠ 0 := by have : ((chkN l : Nat) : Int) ≠ 0 := hc; omega
      rw [if_neg hc]
      generalize chkN l = e at *
      refine ab 1000 rfl trivial ?_
      refine S_pure rfl rfl rfl wireBegun_ok (.nil _) ?_
      refine ab 1000 rfl trivial ?_
      refine S_guard rfl rfl rfl rfl (fun _ => ?_) (fun h => by cases h)
      refine ab 1000 rfl trivial ?_
      refine S_pure rfl rfl rfl (textIs_ok [] [] e e) (.cons (.refl .str) (.cons (.refl .int) (.cons (.refl .int) (.cons (.refl .str) (.nil _))))) ?_
      refine ab 1000 rfl trivial ?_
      refine S_retc .bool rfl trivial ?_
      show AV.bool _ = _
      simp

end Go.Proofs.Ytjpmngjoohoddaa
