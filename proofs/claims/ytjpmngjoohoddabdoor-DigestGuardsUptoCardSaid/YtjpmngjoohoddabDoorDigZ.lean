/-
  The law DigestProofs.
-/
import Derived.Test.YtjpmngjoohoddabDoorDigY
set_option linter.unusedVariables false
set_option linter.unusedSimpArgs false
set_option maxRecDepth 20000
namespace Go.Proofs.YtjpmngjoohoddabDoor
open Go Go.Ab

theorem proofV_len {l : List (List UInt8)} (i : Int) : (proofV l i).length ≤ l.length := by
  unfold proofV; split
  · exact proofL_len _ l _ rfl
  · exact Nat.zero_le _

theorem DigestProofs_ok {st fl : Bool} (l : List (List UInt8)) (i : Int) (hl : l.length ≤ 1048576) : Calc cx 7 [.sl st fl 1 (texts l), .int .i64 i] (.bool true) :=
  pure_intro (fun a w => Tryd.call7 a w) Tryd.func7 rfl Tryd.ntmps7 rfl .bool fun B => by
    have htl := texts_len l
    have lend : ∀ σ : Heap, Frz false σ (.sl st fl 1 (texts l)) (.sl st fl 1 (texts l)) := fun σ => .refl (.sl (fun h => by cases h) (texts_any l))
    have lendq : ∀ (q : List (List UInt8)) (σ : Heap), Frz false σ (.sl true false 1 (texts q)) (.sl true false 1 (texts q)) := fun q σ => .refl (.sl (fun h => by cases h) (texts_any q))
    have hvl := proofV_len (l := l) i
    refine ab 1000 rfl trivial ?_
    refine S_pure rfl rfl rfl (Proof_ok (st := st) (fl := fl) l i hl) (.cons (lend _) (.cons (.refl .int) (.nil _))) ?_
    refine ab 1000 rfl trivial ?_
    refine S_pure rfl rfl rfl (CheckList_ok (st := st) (fl := fl) l 2000 (by omega)) (.cons (lend _) (.cons (.refl .int) (.nil _))) ?_
    obtain ⟨e, he⟩ : ∃ e, e = proofE l i := ⟨_, rfl⟩
    obtain ⟨q, hq⟩ : ∃ q, q = proofV l i := ⟨_, rfl⟩
    rw [← he, ← hq]
    rw [← hq] at hvl
    by_cases hc : checkL l 2000 = 0
    · have hf := checkL_fit hc
      have hlen := hf.len
      rw [hc]
      refine ab 1000 rfl trivial ?_
      refine S_guard rfl rfl rfl rfl (fun _ => ?_) (fun h => absurd h (by decide))
      refine ab 1000 rfl trivial ?_
      have yes3 : i < 0 ∨ (l.length : Int) ≤ i → proofE l i = 3 := fun h3 => by rw [proofE, if_neg (by omega), if_pos h3]
      refine S_guard rfl rfl rfl rfl (fun h2 => ?_) (fun h2 => ?_)
      · have h2 : i < 0 := of_decide_eq_true h2
        refine ab 1000 rfl trivial ?_
        refine S_cond (b := true) rfl (fun _ => ?_) (fun h => by cases h)
        have hE : proofE l i = 3 := yes3 (.inl h2)
        have hV : q = [] := by rw [hq, proofV, hE, if_neg (by decide)]
        rw [hE] at he
        subst hV; subst he
        refine ab 1000 rfl trivial ?_
        refine S_beq rfl (fun h => absurd h (by omega)) (fun _ => ?_)
        refine ab 1000 rfl trivial ?_
        refine S_pure rfl rfl rfl digestBegun_ok (.nil _) ?_
        refine ab 1000 rfl trivial ?_
        refine S_guard rfl rfl rfl rfl (fun _ => ?_) (fun h => by cases h)
        refine ab 1000 rfl trivial ?_
        refine S_pure rfl rfl rfl (textsAre_ok (st := true) (fl := false) (st' := false) (fl' := false) [] [] 3 3 (by decide) (by decide)) (.cons (lendq [] _) (.cons (.refl .int) (.cons (.refl .int) (.cons .nils (.nil _))))) ?_
        refine ab 1000 rfl trivial ?_
        refine S_retc .bool rfl trivial ?_
        show AV.bool _ = _
        simp
      have h2 : ¬ i < 0 := of_decide_eq_false h2
      refine ab 1000 rfl trivial ?_
      refine S_dec rfl (fun h3 => ?_) (fun h3 => ?_)
      · have h3 : (l.length : Int) ≤ i := by have : (((texts l).length : Nat) : Int) ≤ i := h3; omega
        have hE : proofE l i = 3 := yes3 (.inr h3)
        have hV : q = [] := by rw [hq, proofV, hE, if_neg (by decide)]
        rw [hE] at he
        subst hV; subst he
        refine ab 1000 rfl trivial ?_
        refine S_beq rfl (fun h => absurd h (by omega)) (fun _ => ?_)
        refine ab 1000 rfl trivial ?_
        refine S_pure rfl rfl rfl digestBegun_ok (.nil _) ?_
        refine ab 1000 rfl trivial ?_
        refine S_guard rfl rfl rfl rfl (fun _ => ?_) (fun h => by cases h)
        refine ab 1000 rfl trivial ?_
        refine S_pure rfl rfl rfl (textsAre_ok (st := true) (fl := false) (st' := false) (fl' := false) [] [] 3 3 (by decide) (by decide)) (.cons (lendq [] _) (.cons (.refl .int) (.cons (.refl .int) (.cons .nils (.nil _))))) ?_
        refine ab 1000 rfl trivial ?_
        refine S_retc .bool rfl trivial ?_
        show AV.bool _ = _
        simp
      have h3 : ¬ (l.length : Int) ≤ i := by have : ¬ (((texts l).length : Nat) : Int) ≤ i := h3; omega
      have hE : proofE l i = 0 := by rw [proofE, if_neg (by omega), if_neg (by omega)]
      have hV : q = proofL l i.toNat := by rw [hq, proofV, if_pos hE]
      rw [hE] at he
      subst he
      obtain ⟨i', rfl⟩ := Int.eq_ofNat_of_zero_le (show 0 ≤ i by omega)
      rw [Int.toNat_natCast] at hV
      have hpl := proofL_len _ l i' rfl
      subst hV
      refine ab 1000 rfl trivial ?_
      refine S_beq rfl (fun _ => ?_) (fun h => absurd rfl h)
      refine ab 1000 rfl trivial ?_
      refine S_pure rfl rfl rfl (own_calc (ProofOfC l.length (st := st) (fl := fl) l i' rfl (by omega) (by omega) hf)) (.cons (lend _) (.cons (.refl .int) (.nil _))) ?_
      refine ab 1000 rfl trivial ?_
      refine S_pure rfl rfl rfl digestBegun_ok (.nil _) ?_
      refine ab 1000 rfl trivial ?_
      refine S_guard rfl rfl rfl rfl (fun _ => ?_) (fun h => by cases h)
      refine ab 1000 rfl trivial ?_
      refine S_pure rfl rfl rfl (textsAre_ok (st := true) (fl := false) (st' := true) (fl' := false) (proofL l i') (proofL l i') 0 0 (by omega) (by omega)) (.cons (lendq _ _) (.cons (.refl .int) (.cons (.refl .int) (.cons (lendq _ _) (.nil _))))) ?_
      refine ab 1000 rfl trivial ?_
      refine S_retc .bool rfl trivial ?_
      show AV.bool _ = _
      simp
    · have hE : proofE l i = checkL l 2000 := by rw [proofE, if_pos hc]
      have hV : q = [] := by rw [hq, proofV, if_neg (by omega)]
      subst hV
      rw [← hE, ← he]
      have he0 : e ≠ 0 := by omega
      refine ab 1000 rfl trivial ?_
      refine S_guard rfl rfl rfl rfl (fun h => absurd (show ((e : Nat) : Int) = 0 by simpa using h) (by omega)) (fun _ => ?_)
      refine ab 1000 rfl trivial ?_
      refine S_cond (b := false) rfl (fun h => by cases h) (fun _ => ?_)
      refine ab 1000 rfl trivial ?_
      refine S_beq rfl (fun h => absurd h (by omega)) (fun _ => ?_)
      refine ab 1000 rfl trivial ?_
      refine S_pure rfl rfl rfl digestBegun_ok (.nil _) ?_
      refine ab 1000 rfl trivial ?_
      refine S_guard rfl rfl rfl rfl (fun _ => ?_) (fun h => by cases h)
      refine ab 1000 rfl trivial ?_
      refine S_pure rfl rfl rfl (textsAre_ok (st := true) (fl := false) (st' := false) (fl' := false) [] [] e e (by decide) (by decide)) (.cons (lendq [] _) (.cons (.refl .int) (.cons (.refl .int) (.cons .nils (.nil _))))) ?_
      refine ab 1000 rfl trivial ?_
      refine S_retc .bool rfl trivial ?_
      show AV.bool _ = _
      simp

end Go.Proofs.YtjpmngjoohoddabDoor
