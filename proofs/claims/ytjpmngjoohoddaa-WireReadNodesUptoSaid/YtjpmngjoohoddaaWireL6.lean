/-
  The law WireReadNodes.
-/
import Derived.Test.YtjpmngjoohoddaaNodeQ
import Derived.Test.YtjpmngjoohoddaaRefI
set_option linter.unusedVariables false
set_option linter.unusedSimpArgs false
set_option maxRecDepth 20000
namespace Go.Proofs.Ytjpmngjoohoddaa
open Go Go.Ab

theorem WireReadNodes_ok (s : List UInt8) (l : List NodeV) (hs : s.length ≤ 1099511627776) (hl : NodesOk l) : Calc cx 9 [.str s, .sl true false 3 (nodes l)] (.bool true) :=
  pure_intro (fun a w => Try.call9 a w) Try.func9 rfl Try.ntmps9 rfl .bool fun B => by
    have lend : ∀ (σ : Heap) (x : List NodeV), Frz false σ (.sl true false 3 (nodes x)) (.sl true false 3 (nodes x)) := fun σ x => .refl (.sl (fun h => by cases h) (nodes_any x))
    refine ab 1000 rfl trivial ?_
    have hR := ReadNodes_ok s hs
    generalize hx : readNd s = x at hR
    obtain ⟨ts, e⟩ := x
    refine S_pure rfl rfl rfl hR (.cons (.refl .str) (.nil _)) ?_
    refine ab 1000 rfl trivial ?_
    refine S_pure rfl rfl rfl wireBegun_ok (.nil _) ?_
    refine ab 1000 rfl trivial ?_
    refine S_guard rfl rfl rfl rfl (fun h => by cases h) (fun _ => ?_)
    refine ab 1000 rfl trivial ?_
    rcases readNd_ok hx with ⟨rfl, hc, hp⟩ | ⟨rfl, rfl⟩
    · have fit := chk_fit hc
      have hok : NodesOk ts := ⟨by have := fit.len; omega, fun n hn => by have := fit.name n hn; omega, fun n hn => by have := fit.dig n hn; omega⟩
      refine S_cond rfl (fun _ => ?_) (fun h => by cases h)
      refine ab 1000 rfl trivial ?_
      refine S_pure rfl rfl rfl wireBegun_ok (.nil _) ?_
      refine ab 1000 rfl trivial ?_
      refine S_guard rfl rfl rfl rfl (fun _ => ?_) (fun h => by cases h)
      refine ab 1000 rfl trivial ?_
      have hC := CheckNodes_ok (st := true) (fl := false) ts hok
      rw [hc] at hC
      refine S_pure rfl rfl rfl hC (.cons (lend _ _) (.nil _)) ?_
      refine ab 1000 rfl trivial ?_
      refine S_guard rfl rfl rfl rfl (fun _ => ?_) (fun h => by cases h)
      refine ab 1000 rfl trivial ?_
      refine S_pure rfl rfl rfl (PackNodes_ok (st := true) (fl := false) ts fit) (.cons (lend _ _) (.nil _)) ?_
      refine ab 1000 rfl trivial ?_
      refine S_retc .bool rfl trivial ?_
      show AV.bool (packNs ts == s) = _
      rw [hp]; simp
    · refine S_cond rfl (fun h => by cases h) (fun _ => ?_)
      refine ab 1000 rfl trivial ?_
      refine S_guard rfl rfl rfl rfl (fun _ => ?_) (fun h => by cases h)
      refine ab 1000 rfl trivial ?_
      refine S_guard rfl rfl rfl rfl (fun _ => ?_) (fun h => by cases h)
      refine ab 1000 rfl trivial ?_
      refine S_pure rfl rfl rfl (CheckNodes_ok (st := true) (fl := false) l hl) (.cons (lend _ _) (.nil _)) ?_
      refine ab 1000 rfl trivial ?_
      by_cases hc : chkN l = 0
      · rw [hc]
        refine S_guard rfl rfl rfl rfl (fun h => by cases h) (fun _ => ?_)
        refine ab 1000 rfl trivial ?_
        refine S_pure rfl rfl rfl (PackNodes_ok (st := true) (fl := false) l (chk_fit hc)) (.cons (lend _ _) (.nil _)) ?_
        refine ab 1000 rfl trivial ?_
        refine S_retc .bool rfl trivial ?_
        have hne : packNs l ≠ s := by
          intro h
          have h1 := readNd_pack l hc
          rw [h, hx] at h1
          cases h1
        show AV.bool (!(packNs l == s)) = _
        rw [beq_eq_false_iff_ne.2 hne]; rfl
      · refine S_guard rfl rfl rfl rfl (fun _ => ?_) (fun h => ?_)
        · refine ab 1000 rfl trivial ?_
          exact S_retc .bool rfl trivial rfl
        · exfalso
          have h : (((chkN l : Nat) : Int) != 0) = false := h
          exact hc (by have : ((chkN l : Nat) : Int) = 0 := by simpa using h
                       omega)

end Go.Proofs.Ytjpmngjoohoddaa
