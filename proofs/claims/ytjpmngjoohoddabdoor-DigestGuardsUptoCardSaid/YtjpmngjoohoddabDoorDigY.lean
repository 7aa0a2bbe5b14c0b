/-
  The program's Proof; the law DigestProofs.
-/
import Derived.Test.YtjpmngjoohoddabDoorDigX
import Derived.Test.YtjpmngjoohoddabDoorRefT
set_option linter.unusedVariables false
set_option linter.unusedSimpArgs false
set_option maxRecDepth 20000
namespace Go.Proofs.YtjpmngjoohoddabDoor
open Go Go.Ab

theorem own_calc {f : FuncId} {args : List AV} {q : List (List UInt8)} (h : CallOk cx f args [] (OwnL q)) : Calc cx f args (.sl true false 1 (texts q)) :=
  calc_of (.sl (fun _ => rfl) (texts_any _)) (h.mono fun o σ' ⟨h1, h2⟩ => ⟨_, h1, by rw [h2]; exact .ms1 rfl (texts_one _) (by rw [texts_len]) (texts_any _)⟩)

/-- What is wrong with what is handed in. -/
def proofE (l : List (List UInt8)) (i : Int) : Nat := if checkL l 2000 ≠ 0 then checkL l 2000 else if i < 0 ∨ (l.length : Int) ≤ i then 3 else 0

def proofV (l : List (List UInt8)) (i : Int) : List (List UInt8) := if proofE l i = 0 then proofL l i.toNat else []

theorem pf_free (q : List (List UInt8)) (n : Int) : Free true (.tup [.sl true false 1 (texts q), .int .i64 n]) := .tup (by intro x hx; simp at hx; rcases hx with rfl | rfl; exact .sl (fun _ => rfl) (texts_any _); exact .int)

theorem pf_nil {σ : Heap} (n : Int) : Frz true σ (.tup [.nils, .int .i64 n]) (.tup [.sl true false 1 (texts []), .int .i64 n]) :=
  .tup rfl fun i h h' => match i, h with
    | 0, _ => .nils
    | 1, _ => .refl .int

theorem Proof_ok {st fl : Bool} (l : List (List UInt8)) (i : Int) (hl : l.length ≤ 1048576) : Calc cx 24 [.sl st fl 1 (texts l), .int .i64 i] (.tup [.sl true false 1 (texts (proofV l i)), .int .i64 (proofE l i : Nat)]) :=
  pure_intro (fun a w => Tryd.call24 a w) Tryd.func24 rfl Tryd.ntmps24 rfl (pf_free _ _) fun B => by
    have htl := texts_len l
    have lend : ∀ σ : Heap, Frz false σ (.sl st fl 1 (texts l)) (.sl st fl 1 (texts l)) := fun σ => .refl (.sl (fun h => by cases h) (texts_any l))
    refine ab 1000 rfl trivial ?_
    refine S_pure rfl rfl rfl (check_ok (st := st) (fl := fl) l (by omega)) (.cons (lend _) (.nil _)) ?_
    refine ab 1000 rfl trivial ?_
    refine S_bne rfl (fun h => ?_) (fun h => ?_)
    · have h : checkL l 2000 ≠ 0 := by have : ((checkL l 2000 : Nat) : Int) ≠ 0 := h; omega
      have hE : proofE l i = checkL l 2000 := by rw [proofE, if_pos h]
      refine ab 1000 rfl trivial ?_
      refine S_ret ⟨_, _, rfl, trivial, _, rfl, ?_⟩
      rw [proofV, hE, if_neg h]
      exact pf_nil _
    have h : checkL l 2000 = 0 := by have : ((checkL l 2000 : Nat) : Int) = 0 := h; omega
    have hf := checkL_fit h
    refine ab 1000 rfl trivial ?_
    have yes3 : i < 0 ∨ (l.length : Int) ≤ i → proofE l i = 3 := fun h3 => by rw [proofE, if_neg (by omega), if_pos h3]
    refine S_guard rfl rfl rfl rfl (fun h2 => ?_) (fun h2 => ?_)
    · have h2 : i < 0 := of_decide_eq_true h2
      refine ab 1000 rfl trivial ?_
      refine S_cond (b := true) rfl (fun _ => ?_) (fun h => by cases h)
      refine ab 1000 rfl trivial ?_
      refine S_ret ⟨_, _, rfl, trivial, _, rfl, ?_⟩
      rw [proofV, yes3 (.inl h2), if_neg (by decide)]
      exact pf_nil _
    have h2 : ¬ i < 0 := of_decide_eq_false h2
    refine ab 1000 rfl trivial ?_
    refine S_dec rfl (fun h3 => ?_) (fun h3 => ?_)
    · have h3 : (l.length : Int) ≤ i := by have : (((texts l).length : Nat) : Int) ≤ i := h3; omega
      refine ab 1000 rfl trivial ?_
      refine S_ret ⟨_, _, rfl, trivial, _, rfl, ?_⟩
      rw [proofV, yes3 (.inr h3), if_neg (by decide)]
      exact pf_nil _
    have h3 : ¬ (l.length : Int) ≤ i := by have : ¬ (((texts l).length : Nat) : Int) ≤ i := h3; omega
    have hE : proofE l i = 0 := by rw [proofE, if_neg (by omega), if_neg (by omega)]
    obtain ⟨i', rfl⟩ := Int.eq_ofNat_of_zero_le (show 0 ≤ i by omega)
    have hlen := hf.len
    refine ab 1000 rfl trivial ?_
    refine S_pure rfl rfl rfl (own_calc (proof_ok l.length (st := st) (fl := fl) l i' rfl (by omega) (by omega) hf)) (.cons (lend _) (.cons (.refl .int) (.nil _))) ?_
    refine ab 1000 rfl trivial ?_
    refine S_retc (pf_free _ _) rfl trivial ?_
    rw [proofV, hE, if_pos rfl, Int.toNat_natCast]; rfl

theorem textsAre_ok {st fl st' fl' : Bool} (p q : List (List UInt8)) (e w : Nat) (hp : p.length ≤ 9223372036854775806) (hq : q.length ≤ 9223372036854775806) : Calc cx 26 [.sl st fl 1 (texts p), .int .i64 e, .int .i64 w, .sl st' fl' 1 (texts q)] (.bool (e == w && p == (if w = 0 then q else []))) :=
  pure_intro (fun a w => Tryd.call26 a w) Tryd.func26 rfl Tryd.ntmps26 rfl .bool fun B => by
    have lend : ∀ σ : Heap, Frz false σ (.sl st fl 1 (texts p)) (.sl st fl 1 (texts p)) := fun σ => .refl (.sl (fun h => by cases h) (texts_any p))
    have lend' : ∀ σ : Heap, Frz false σ (.sl st' fl' 1 (texts q)) (.sl st' fl' 1 (texts q)) := fun σ => .refl (.sl (fun h => by cases h) (texts_any q))
    refine ab 1000 rfl trivial ?_
    have fin : ∀ (B : Bool), (((e : Nat) : Int) == ((w : Nat) : Int)) = (e == w) := by
      intro _
      by_cases h : e = w
      · subst h; simp
      · have : ((e : Nat) : Int) ≠ w := by omega
        rw [beq_eq_false_iff_ne.2 this, beq_eq_false_iff_ne.2 h]
    refine S_bne rfl (fun h => ?_) (fun h => ?_)
    · have hw : w ≠ 0 := by omega
      rw [if_neg hw]
      refine ab 1000 rfl trivial ?_
      refine S_guard rfl rfl rfl rfl (fun hg => ?_) (fun hg => ?_)
      · refine ab 1000 rfl trivial ?_
        refine S_pure rfl rfl rfl (SameTexts_ok (st := st) (st' := false) (fl := fl) (fl' := false) p [] hp (by decide)) (.cons (lend _) (.cons .nils (.nil _))) ?_
        refine ab 1000 rfl trivial ?_
        refine S_retc .bool rfl trivial ?_
        rw [← fin true, hg]; rfl
      · refine ab 1000 rfl trivial ?_
        refine S_retc .bool rfl trivial ?_
        rw [← fin true, hg]; rfl
    · have hw : w = 0 := by omega
      rw [if_pos hw]
      refine ab 1000 rfl trivial ?_
      refine S_guard rfl rfl rfl rfl (fun hg => ?_) (fun hg => ?_)
      · refine ab 1000 rfl trivial ?_
        refine S_pure rfl rfl rfl (SameTexts_ok (st := st) (st' := st') (fl := fl) (fl' := fl') p q hp (by omega)) (.cons (lend _) (.cons (lend' _) (.nil _))) ?_
        refine ab 1000 rfl trivial ?_
        refine S_retc .bool rfl trivial ?_
        rw [← fin true, hg]; rfl
      · refine ab 1000 rfl trivial ?_
        refine S_retc .bool rfl trivial ?_
        rw [← fin true, hg]; rfl

end Go.Proofs.YtjpmngjoohoddabDoor
