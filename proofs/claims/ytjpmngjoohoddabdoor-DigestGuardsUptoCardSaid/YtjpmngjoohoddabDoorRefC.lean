/-
  Lists of texts that are too long.
-/
import Derived.Test.YtjpmngjoohoddabDoorRefT
set_option linter.unusedVariables false
set_option linter.unusedSimpArgs false
set_option maxRecDepth 20000
namespace Go.Proofs.YtjpmngjoohoddabDoor
open Go Go.Ab

/-- What is wrong with a list of texts: 2 where it is too long, or one of them is. -/
def checkL (l : List (List UInt8)) (most : Nat) : Nat := if most < l.length then 2 else if l.any (fun s => decide (100000 < s.length)) then 2 else 0

theorem CheckList_ok {st fl : Bool} (l : List (List UInt8)) (most : Nat) (hl : l.length ≤ 9223372036854775806) : Calc cx 18 [.sl st fl 1 (texts l), .int .i64 most] (.int .i64 (checkL l most : Nat)) :=
  pure_intro (fun a w => Tryd.call18 a w) Tryd.func18 rfl Tryd.ntmps18 rfl .int fun B => by
    refine ab 1000 rfl trivial ?_
    refine S_dec rfl (fun h => ?_) (fun h => ?_)
    · have h : most < l.length := by simp [texts] at h; omega
      refine ab 1000 rfl trivial ?_
      refine S_retc .int rfl trivial ?_
      rw [checkL, if_pos h]; rfl
    · have h : ¬ most < l.length := by simp [texts] at h; omega
      refine ab 1000 rfl trivial ?_
      refine S_while (α := Nat) (fun i => [(0, .sl st fl 1 (texts l)), (5, .int .i64 i)]) (fun _ => []) (fun i => i ≤ l.length ∧ (l.take i).any (fun s => decide (100000 < s.length)) = false) (fun i => l.length - i) 0
        ⟨Nat.zero_le _, rfl⟩ (.cons rfl (.cons rfl (.nil _))) rfl ?_
      rintro i ⟨hi, hN⟩
      refine ab 1000 rfl trivial ?_
      refine S_dec rfl (fun hlt => ?_) (fun hlt => ?_)
      · have hil : i < l.length := by simp [texts] at hlt; omega
        refine ab 1000 rfl trivial ?_
        refine S_index (.str l[i]) rfl rfl rfl ⟨rfl, by omega, by simp [texts, List.getElem?_eq_getElem hil], trivial⟩ ?_
        refine ab 1000 rfl trivial ?_
        refine S_dec rfl (fun hb => ?_) (fun hb => ?_)
        · have hb : 100000 < l[i].length := by omega
          refine ab 1000 rfl trivial ?_
          refine S_retc .int rfl trivial ?_
          rw [checkL, if_neg h, if_pos (List.any_eq_true.2 ⟨l[i], List.getElem_mem hil, by simpa using hb⟩)]; rfl
        · have hb : ¬ 100000 < l[i].length := by omega
          refine ab 1000 rfl trivial ?_
          refine S_round (i + 1) (by show l.length - (i + 1) < l.length - i; omega) ⟨hil, ?_⟩ (.cons rfl (.cons (ai64 rfl (by omega)) (.nil _))) rfl
          rw [List.take_succ_eq_append_getElem hil, List.any_append, hN]
          simp; omega
      · have hil : i = l.length := by simp [texts] at hlt; omega
        refine ab 1000 rfl trivial ?_
        refine S_retc .int rfl trivial ?_
        rw [hil, List.take_length] at hN
        rw [checkL, if_neg h, if_neg (by rw [hN]; simp)]; rfl

end Go.Proofs.YtjpmngjoohoddabDoor
