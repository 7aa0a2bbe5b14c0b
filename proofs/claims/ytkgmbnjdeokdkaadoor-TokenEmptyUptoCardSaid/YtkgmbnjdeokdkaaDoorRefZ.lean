/-
  Which of n things a raw number speaks of.
-/
import Derived.Test.YtkgmbnjdeokdkaaDoorBase
set_option linter.unusedVariables false
set_option linter.unusedSimpArgs false
set_option maxRecDepth 20000
namespace Go.Proofs.YtkgmbnjdeokdkaaDoor
open Go Go.Ab

def chooseN (c : Int) (n : Nat) : Nat := (if c < 0 then (-(c + 1)).toNat else c.toNat) % n

theorem choose_ok (c : Int) (n : Nat) (hc : -9223372036854775808 ≤ c ∧ c ≤ 9223372036854775807) (hn : 0 < n) (hn2 : n ≤ 9223372036854775807) : Calc cx 11 [.int .i64 c, .int .i64 n] (.int .i64 (chooseN c n)) :=
  pure_intro (fun a w => Tryd.call11 a w) Tryd.func11 rfl Tryd.ntmps11 rfl .int fun B => by
    refine ab 1000 rfl trivial ?_
    have hmod : ∀ m : Nat, ((m : Int).tmod n) = ((m % n : Nat) : Int) := fun m => rfl
    refine S_dec rfl (fun h => ?_) (fun h => ?_)
    · have hw : IntKind.i64.wrap (0 - IntKind.i64.wrap (c + 1)) = (((-(c + 1)).toNat : Nat) : Int) := by
        have e1 : IntKind.i64.wrap (c + 1) = c + 1 := IntWalk.i64_in _ ⟨by omega, by omega⟩
        rw [e1]
        exact w64 (by omega) (by omega)
      refine ab 1000 rfl ⟨by omega, trivial⟩ ?_
      refine S_retc .int rfl trivial ?_
      show AV.int .i64 ((IntKind.i64.wrap (0 - IntKind.i64.wrap (c + 1))).tmod n) = _
      rw [hw, hmod, chooseN, if_pos h]
    · refine ab 1000 rfl ⟨by omega, trivial⟩ ?_
      refine S_retc .int rfl trivial ?_
      obtain ⟨m, rfl⟩ := Int.eq_ofNat_of_zero_le (by omega : 0 ≤ c)
      show AV.int .i64 ((m : Int).tmod n) = _
      rw [hmod, chooseN, if_neg h, Int.toNat_natCast]

theorem chooseN_lt (c : Int) {n : Nat} (hn : 0 < n) : chooseN c n < n := Nat.mod_lt _ hn

end Go.Proofs.YtkgmbnjdeokdkaaDoor
