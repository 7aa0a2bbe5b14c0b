/-
  The laws WireNumbers, WireReadNumbers, WireTexts.
-/
import Derived.Test.YtjbgcbolakdhaaaWireQ
import Derived.Test.YtjbgcbolakdhaaaWireC
import Derived.Test.YtjbgcbolakdhaaaRefI
set_option linter.unusedVariables false
set_option linter.unusedSimpArgs false
set_option maxRecDepth 20000
namespace Go.Proofs.Ytjbgcbolakdhaaa
open Go Go.Ab

theorem WireNumbers_ok (n : Int) : Calc cx 10 [.int .i64 n] (.bool true) :=
  pure_intro (fun a w => Try.call10 a w) Try.func10 rfl Try.ntmps10 rfl .bool fun B => by
    refine ab 1000 rfl trivial ?_
    refine S_pure rfl rfl rfl (Number_any n) (.cons (.refl .int) (.nil _)) ?_
    refine ab 1000 rfl trivial ?_
    refine S_pure rfl rfl rfl (IsNumber_ok n) (.cons (.refl .int) (.nil _)) ?_
    refine ab 1000 rfl trivial ?_
    refine S_cond rfl (fun h => ?_) (fun h => ?_)
    · have hn : 0 ≤ n ∧ n ≤ 9007199254740991 := by simpa using h
      rw [numberOf, if_pos hn]
      obtain ⟨m, rfl⟩ := Int.eq_ofNat_of_zero_le hn.1
      refine ab 1000 rfl trivial ?_
      refine S_pure rfl rfl rfl (PackNumber_ok m (by omega)) (.cons (.refl .int) (.nil _)) ?_
      refine ab 1000 rfl trivial ?_
      refine S_pure rfl rfl rfl wireBegun_ok (.nil _) ?_
      refine ab 1000 rfl trivial ?_
      refine S_guard rfl rfl rfl rfl (fun _ => ?_) (fun h => absurd h (by decide))
      refine ab 1000 rfl trivial ?_
      refine S_pure rfl rfl rfl (textIs_ok (packN 9 m) (packN 9 m) 0 0) (.cons (.refl .str) (.cons (.refl .int) (.cons (.refl .int) (.cons (.refl .str) (.nil _))))) ?_
      refine ab 1000 rfl trivial ?_
      refine S_retc .bool rfl trivial ?_
      show AV.bool _ = _
      simp
    · have hn : ¬ (0 ≤ n ∧ n ≤ 9007199254740991) := by
        rw [← Bool.decide_and] at h; exact of_decide_eq_false h
      rw [numberOf, if_neg hn]
      refine ab 1000 rfl trivial ?_
      refine S_pure rfl rfl rfl wireBegun_ok (.nil _) ?_
      refine ab 1000 rfl trivial ?_
      refine S_guard rfl rfl rfl rfl (fun _ => ?_) (fun h => absurd h (by decide))
      refine ab 1000 rfl trivial ?_
      refine S_pure rfl rfl rfl (textIs_ok [] [] 3 3) (.cons (.refl .str) (.cons (.refl .int) (.cons (.refl .int) (.cons (.refl .str) (.nil _))))) ?_
      refine ab 1000 rfl trivial ?_
      exact S_retc .bool rfl trivial rfl

theorem WireReadNumbers_ok (s : List UInt8) (hs : s.length ≤ 9223372036854775806) : Calc cx 11 [.str s] (.bool true) :=
  pure_intro (fun a w => Try.call11 a w) Try.func11 rfl Try.ntmps11 rfl .bool fun B => by
    refine ab 1000 rfl trivial ?_
    have h1 := ReadNumber_ok s hs
    have h2 := UnpackNumber_ok s hs
    generalize readN s 0 0 = x at *
    obtain ⟨a, b, e⟩ := x
    refine S_pure rfl rfl rfl h1 (.cons (.refl .str) (.nil _)) ?_
    refine ab 1000 rfl trivial ?_
    refine S_pure rfl rfl rfl h2 (.cons (.refl .str) (.nil _)) ?_
    refine ab 1000 rfl trivial ?_
    refine S_pure rfl rfl rfl wireBegun_ok (.nil _) ?_
    refine ab 1000 rfl trivial ?_
    have hb : ∀ n : Nat, ((n : Int) == (n : Int)) = true := by simp
    refine S_guard rfl rfl rfl rfl (fun _ => ?_) (fun h => absurd h (by decide))
    refine ab 1000 rfl trivial ?_
    refine S_guard rfl rfl rfl rfl (fun _ => ?_) (fun h => absurd (h.symm.trans (hb e)) (by decide))
    refine ab 1000 rfl trivial ?_
    refine S_guard rfl rfl rfl rfl (fun _ => ?_) (fun h => absurd (h.symm.trans (hb a)) (by decide))
    refine ab 1000 rfl trivial ?_
    refine S_retc .bool rfl trivial ?_
    show AV.bool ((b : Int) == (b : Int)) = _
    rw [hb]

theorem WireTexts_ok {st fl : Bool} (l : List (List UInt8)) (hl : l.length ≤ 9223372036854775806) : Calc cx 12 [.sl st fl 1 (texts l)] (.bool true) :=
  pure_intro (fun a w => Try.call12 a w) Try.func12 rfl Try.ntmps12 rfl .bool fun B => by
    have lend : ∀ σ : Heap, Frz false σ (.sl st fl 1 (texts l)) (.sl st fl 1 (texts l)) := fun σ => .refl (.sl (fun h => by cases h) (texts_any l))
    refine ab 1000 rfl trivial ?_
    refine S_pure rfl rfl rfl (Texts_ok (st := st) (fl := fl) l hl) (.cons (lend _) (.nil _)) ?_
    rw [textsOf_check]
    refine ab 1000 rfl trivial ?_
    refine S_pure rfl rfl rfl (CheckList_ok (st := st) (fl := fl) l 2000 hl) (.cons (lend _) (.cons (.refl .int) (.nil _))) ?_
    refine ab 1000 rfl trivial ?_
    refine S_beq rfl (fun hc => ?_) (fun hc => ?_)
    · have hc : checkL l 2000 = 0 := by omega
      obtain ⟨h1, h2⟩ := checkL_ok hc
      rw [if_pos hc, hc]
      refine ab 1000 rfl trivial ?_
      refine S_pure rfl rfl rfl (PackTexts_ok (st := st) (fl := fl) l h1 h2) (.cons (lend _) (.nil _)) ?_
      refine ab 1000 rfl trivial ?_
      refine S_pure rfl rfl rfl wireBegun_ok (.nil _) ?_
      refine ab 1000 rfl trivial ?_
      refine S_guard rfl rfl rfl rfl (fun _ => ?_) (fun h => absurd h (by decide))
      refine ab 1000 rfl trivial ?_
      refine S_pure rfl rfl rfl (textIs_ok (packTs l) (packTs l) 0 0) (.cons (.refl .str) (.cons (.refl .int) (.cons (.refl .int) (.cons (.refl .str) (.nil _))))) ?_
      refine ab 1000 rfl trivial ?_
      refine S_retc .bool rfl trivial ?_
      show AV.bool _ = _
      simp
    · have hc : checkL l 2000 ≠ 0 := by omega
      rw [if_neg hc]
      generalize checkL l 2000 = e at *
      refine ab 1000 rfl trivial ?_
      refine S_pure rfl rfl rfl wireBegun_ok (.nil _) ?_
      refine ab 1000 rfl trivial ?_
      refine S_guard rfl rfl rfl rfl (fun _ => ?_) (fun h => absurd h (by decide))
      refine ab 1000 rfl trivial ?_
      refine S_pure rfl rfl rfl (textIs_ok [] [] e e) (.cons (.refl .str) (.cons (.refl .int) (.cons (.refl .int) (.cons (.refl .str) (.nil _))))) ?_
      refine ab 1000 rfl trivial ?_
      refine S_retc .bool rfl trivial ?_
      show AV.bool _ = _
      simp

end Go.Proofs.Ytjbgcbolakdhaaa
