/-
  Texts packed: the reference's PackTexts.
-/
import Derived.Test.YtjpmngjoohoddaaDoorWireF
set_option linter.unusedVariables false
set_option linter.unusedSimpArgs false
set_option maxRecDepth 20000
namespace Go.Proofs.YtjpmngjoohoddaaDoor
open Go Go.Ab

theorem PackTexts_ok {st fl : Bool} (l : List (List UInt8)) (hn : l.length ≤ 2000) (hs : ∀ s ∈ l, s.length ≤ 100000) : Calc cx 38 [.sl st fl 1 (texts l)] (.str (packTs l)) :=
  pure_intro (fun a w => Tryd.call38 a w) Tryd.func38 rfl Tryd.ntmps38 rfl .str fun B => by
    refine ab 1000 rfl trivial ?_
    have htl : (texts l).length = l.length := by simp [texts]
    have hpl := packN_len 9 l.length
    refine S_pure rfl rfl rfl (PackNumber_ok (texts l).length (by omega)) (.cons (.refl .int) (.nil _)) ?_
    rw [htl]
    refine ab 1000 rfl trivial ?_
    refine S_while (α := Nat) (fun i => [(0, .sl st fl 1 (texts l)), (3, .str (packN 9 l.length ++ (l.take i).flatMap packT)), (4, .int .i64 i)]) (fun _ => []) (fun i => i ≤ l.length) (fun i => l.length - i) 0
      (Nat.zero_le _) (.cons rfl (.cons (by simp; rfl) (.cons rfl (.nil _)))) rfl ?_
    intro i hi
    have hfl := flatMap_packT_length (l.take i) (fun s h => hs s (List.mem_of_mem_take h))
    have htk : (l.take i).length ≤ 2000 := by simp; omega
    refine ab 1000 rfl trivial ?_
    refine S_dec rfl (fun hlt => ?_) (fun hlt => ?_)
    · have hil : i < l.length := by simp [texts] at hlt; omega
      have hsl := hs _ (List.getElem_mem hil)
      have hpt := packN_len 9 l[i].length
      refine ab 1000 rfl trivial ?_
      refine S_index (.str l[i]) rfl rfl rfl ⟨rfl, by omega, by simp [texts, List.getElem?_eq_getElem hil], trivial⟩ ?_
      refine ab 1000 rfl trivial ?_
      refine S_pure rfl rfl rfl (PackText_ok l[i] (by omega)) (.cons (.refl .str) (.nil _)) ?_
      refine ab 1000 rfl ⟨?_, trivial⟩ ?_
      · simp only [List.length_append]; omega
      refine S_round (i + 1) (by show l.length - (i + 1) < l.length - i; omega) hil (.cons rfl (.cons ?_ (.cons (ai64 rfl (by omega)) (.nil _)))) rfl
      show AV.str (packN 9 l.length ++ (l.take i).flatMap packT ++ (packN 9 l[i].length ++ l[i])) = _
      rw [List.take_succ_eq_append_getElem hil]
      simp only [packT, List.flatMap_append, List.flatMap_cons, List.flatMap_nil, List.append_nil, List.append_assoc]
    · have hil : i = l.length := by simp [texts] at hlt; omega
      refine ab 1000 rfl trivial ?_
      refine S_retc .str rfl trivial ?_
      rw [hil, List.take_length]; rfl

end Go.Proofs.YtjpmngjoohoddaaDoor
