/-
  The reference's powers of 2.
-/
import Derived.Test.YtjpmngjoohoddabDoorBase
set_option linter.unusedVariables false
set_option linter.unusedSimpArgs false
set_option maxRecDepth 20000
namespace Go.Proofs.YtjpmngjoohoddabDoor
open Go Go.Ab

theorem Pow2_ok (m : Nat) (hm : m ≤ 62) : Calc cx 64 [.int .i64 m] (.int .i64 ((2 ^ m : Nat) : Int)) :=
  pure_intro (fun a w => Tryd.call64 a w) Tryd.func64 rfl Tryd.ntmps64 rfl .int fun B => by
    refine ab 1000 rfl trivial ?_
    refine S_while (α := Nat) (fun i => [(0, .int .i64 ((m - i : Nat) : Int)), (3, .int .i64 ((2 ^ i : Nat) : Int))]) (fun _ => []) (fun i => i ≤ m) (fun i => m - i) 0 (Nat.zero_le _) (.cons rfl (.cons rfl (.nil _))) rfl ?_
    intro i hi
    have hp : 2 ^ i ≤ 2 ^ 62 := Nat.pow_le_pow_right (by decide) (by omega)
    refine ab 1000 rfl trivial ?_
    refine S_dec rfl (fun h => ?_) (fun h => ?_)
    · have hil : i < m := by omega
      have hp2 : 2 ^ (i + 1) = 2 * 2 ^ i := by rw [Nat.pow_succ]; omega
      have hp3 : 2 ^ (i + 1) ≤ 2 ^ 62 := Nat.pow_le_pow_right (by decide) (by omega)
      refine ab 1000 rfl trivial ?_
      refine S_round (i + 1) (by show m - (i + 1) < m - i; omega) hil (.cons ?_ (.cons ?_ (.nil _))) rfl
      · exact ai64 (k := m - (i + 1)) (by omega) (by omega)
      · exact ai64 (k := 2 ^ (i + 1)) (by rw [hp2]; rfl) (by omega)
    · have him : i = m := by omega
      subst him
      refine ab 1000 rfl trivial ?_
      exact S_retc .int rfl trivial rfl

end Go.Proofs.YtjpmngjoohoddabDoor
