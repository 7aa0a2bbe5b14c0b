/-
  Nodes of a tree: do their names rise: the program.
-/
import Derived.Test.YtjpmngjoohoddaaNodeC
set_option linter.unusedVariables false
set_option linter.unusedSimpArgs false
set_option maxRecDepth 20000
namespace Go.Proofs.Ytjpmngjoohoddaa
open Go Go.Ab

theorem nodeName_ok (n : NodeV) : Calc cx 49 [nodeAV n] (.str n.name) :=
  pure_intro (fun a w => Try.call49 a w) Try.func49 rfl Try.ntmps49 rfl .str fun B => by
    refine ab 1000 rfl ⟨rfl, trivial⟩ ?_
    exact S_retc .str rfl trivial rfl

theorem rises_ok {st fl : Bool} (l : List NodeV) (hl : l.length ≤ 9223372036854775807) : Calc cx 48 [.sl st fl 3 (nodes l), .func (.func 49) [] []] (.bool (riseB (l.map NodeV.name))) :=
  pure_intro (fun a w => Try.call48 a w) Try.func48 rfl Try.ntmps48 rfl .bool fun B => by
    refine ab 1000 rfl trivial ?_
    have hnl := nodes_len l
    have hml : (l.map NodeV.name).length = l.length := by simp
    refine S_while (α := Nat) (fun i => [(0, .sl st fl 3 (nodes l)), (1, .func (.func 49) [] []), (5, .int .i64 (i : Nat))]) (fun _ => []) (fun i => 1 ≤ i ∧ (i = 1 ∨ i ≤ l.length) ∧ (List.range i).all (riseP (l.map NodeV.name)) = true) (fun i => l.length + 1 - i) 1
      ⟨Nat.le_refl _, .inl rfl, rfl⟩ (.cons rfl (.cons rfl (.cons rfl (.nil _)))) rfl ?_
    rintro i ⟨h1, h2, hN⟩
    refine ab 1000 rfl trivial ?_
    refine S_dec rfl (fun hil => ?_) (fun hil => ?_)
    · have hil : i < l.length := by have : ((i : Nat) : Int) < ((nodes l).length : Nat) := hil; omega
      have hil' : i - 1 < l.length := by omega
      have hw : IntKind.i64.wrap ((i : Int) - 1) = ((i - 1 : Nat) : Int) := w64 (by omega) (by omega)
      have g1 : l[i].name = (l.map NodeV.name).getD i [] := by simp [List.getD, hil]
      have g2 : l[i - 1].name = (l.map NodeV.name).getD (i - 1) [] := by simp [List.getD, hil']
      refine ab 1000 rfl trivial ?_
      refine S_draw 14 [] [nodeAV l[i], .str l[i].name, nodeAV l[i - 1], .str l[i - 1].name] rfl rfl rfl rfl ⟨rfl, rfl, rfl, rfl, by omega, by rw [Int.toNat_natCast]; exact nodes_get hil, rfl, ⟨_, nodeName_ok l[i], .cons (.refl (nodeAV_free _)) (.nil _)⟩, rfl, rfl, rfl, rfl, rfl, by rw [hw]; omega, by rw [hw, Int.toNat_natCast]; exact nodes_get hil', rfl, ⟨_, nodeName_ok l[i - 1], .cons (.refl (nodeAV_free _)) (.nil _)⟩, rfl, trivial⟩ ?_
      refine ab 1000 rfl trivial ?_
      refine S_cond rfl (fun h => ?_) (fun h => ?_)
      · have h : leS l[i].name l[i - 1].name = true := h
        rw [g1, g2] at h
        refine ab 1000 rfl trivial ?_
        refine S_retc .bool rfl trivial ?_
        rw [rise_no (by omega) h1 h]; rfl
      · have h : leS l[i].name l[i - 1].name = false := h
        rw [g1, g2] at h
        refine ab 1000 rfl trivial ?_
        exact S_round (i + 1) (by show l.length + 1 - (i + 1) < l.length + 1 - i; omega) ⟨by omega, .inr (by omega), rise_step hN h⟩ (.cons rfl (.cons rfl (.cons (ai64 rfl (by omega)) (.nil _)))) rfl
    · have hil : ¬ i < l.length := by have : ¬ ((i : Nat) : Int) < ((nodes l).length : Nat) := hil; omega
      refine ab 1000 rfl trivial ?_
      refine S_retc .bool rfl trivial ?_
      have : riseB (l.map NodeV.name) = true := by
        rcases Nat.eq_zero_or_pos l.length with h | h
        · rw [riseB, hml, h]; rfl
        · rw [riseB, hml, show l.length = i by omega]; exact hN
      rw [this]; rfl

end Go.Proofs.Ytjpmngjoohoddaa
