/-
  The laws WireReadTexts, WireBackNumber, WireBackTexts.
-/
import Derived.Test.YtjbgcbolakdhaabWireQ
set_option linter.unusedVariables false
set_option linter.unusedSimpArgs false
set_option maxRecDepth 20000
namespace Go.Proofs.Ytjbgcbolakdhaab
open Go Go.Ab

theorem ibeq (n : Int) : (n == n) = true := by simp

theorem WireReadTexts_ok {st fl : Bool} (s : List UInt8) (l : List (List UInt8)) (hs : s.length ≤ 1048576) (hl : l.length ≤ 1048576) : Calc cx 3 [.str s, .sl st fl 1 (texts l)] (.bool true) :=
  pure_intro (fun a w => Try.call3 a w) Try.func3 rfl Try.ntmps3 rfl .bool fun B => by
    have lend : ∀ σ : Heap, Frz false σ (.sl st fl 1 (texts l)) (.sl st fl 1 (texts l)) := fun σ => .refl (.sl (fun h => by cases h) (texts_any l))
    refine ab 1000 rfl trivial ?_
    have hR := ReadTexts_ok s (by omega)
    generalize hx : readT s = x at hR
    obtain ⟨ts, e⟩ := x
    refine S_pure rfl rfl rfl hR (.cons (.refl .str) (.nil _)) ?_
    have lent : ∀ σ : Heap, Frz false σ (.sl true false 1 (texts ts)) (.sl true false 1 (texts ts)) := fun σ => .refl (.sl (fun h => by cases h) (texts_any ts))
    refine ab 1000 rfl trivial ?_
    refine S_pure rfl rfl rfl wireBegun_ok (.nil _) ?_
    refine ab 1000 rfl trivial ?_
    refine S_guard rfl rfl rfl rfl (fun h => by cases h) (fun _ => ?_)
    refine ab 1000 rfl trivial ?_
    rcases readT_ok hx with ⟨rfl, hc, hp⟩ | ⟨rfl, rfl⟩
    · obtain ⟨h1, h2⟩ := checkL_ok hc
      refine S_cond rfl (fun _ => ?_) (fun h => by cases h)
      refine ab 1000 rfl trivial ?_
      refine S_pure rfl rfl rfl wireBegun_ok (.nil _) ?_
      refine ab 1000 rfl trivial ?_
      refine S_guard rfl rfl rfl rfl (fun _ => ?_) (fun h => by cases h)
      refine ab 1000 rfl trivial ?_
      refine S_pure rfl rfl rfl (CheckList_ok (st := true) (fl := false) ts 2000 (by omega)) (.cons (lent _) (.cons (.refl .int) (.nil _))) ?_
      rw [hc]
      refine ab 1000 rfl trivial ?_
      refine S_guard rfl rfl rfl rfl (fun _ => ?_) (fun h => by cases h)
      refine ab 1000 rfl trivial ?_
      refine S_pure rfl rfl rfl (PackTexts_ok (st := true) (fl := false) ts h1 h2) (.cons (lent _) (.nil _)) ?_
      rw [hp]
      refine ab 1000 rfl trivial ?_
      refine S_retc .bool rfl trivial ?_
      show AV.bool (s == s) = _
      simp
    · refine S_cond rfl (fun h => by cases h) (fun _ => ?_)
      refine ab 1000 rfl trivial ?_
      refine S_guard rfl rfl rfl rfl (fun _ => ?_) (fun h => by cases h)
      refine ab 1000 rfl trivial ?_
      refine S_guard rfl rfl rfl rfl (fun _ => ?_) (fun h => by cases h)
      refine ab 1000 rfl trivial ?_
      refine S_pure rfl rfl rfl (CheckList_ok (st := st) (fl := fl) l 2000 (by omega)) (.cons (lend _) (.cons (.refl .int) (.nil _))) ?_
      refine ab 1000 rfl trivial ?_
      refine S_guard rfl rfl rfl rfl (fun h => ?_) (fun h => ?_)
      · refine ab 1000 rfl trivial ?_
        exact S_retc .bool rfl trivial rfl
      · have hc : checkL l 2000 = 0 := by
          have h' : (((checkL l 2000 : Nat) : Int) != 0) = false := h
          have : ((checkL l 2000 : Nat) : Int) = 0 := by simpa using h'
          omega
        obtain ⟨h1, h2⟩ := checkL_ok hc
        refine ab 1000 rfl trivial ?_
        refine S_pure rfl rfl rfl (PackTexts_ok (st := st) (fl := fl) l h1 h2) (.cons (lend _) (.nil _)) ?_
        have hne : packTs l ≠ s := by
          intro h'
          have := readT_pack l hc
          rw [h', hx] at this
          cases this
        refine ab 1000 rfl trivial ?_
        refine S_retc .bool rfl trivial ?_
        show AV.bool (!(packTs l == s)) = _
        rw [beq_eq_false_iff_ne.2 hne]; rfl

theorem WireBackNumber_ok (n : Int) (b : List UInt8) (hb : b.length ≤ 4398046511104) : Calc cx 4 [.int .i64 n, .str b] (.bool true) :=
  pure_intro (fun a w => Try.call4 a w) Try.func4 rfl Try.ntmps4 rfl .bool fun B => by
    refine ab 1000 rfl trivial ?_
    refine S_pure rfl rfl rfl wireBegun_ok (.nil _) ?_
    refine ab 1000 rfl trivial ?_
    refine S_cond rfl (fun h => by cases h) (fun _ => ?_)
    refine ab 1000 rfl trivial ?_
    refine S_pure rfl rfl rfl (Number_any n) (.cons (.refl .int) (.nil _)) ?_
    by_cases hn : 0 ≤ n ∧ n ≤ 9007199254740991
    · rw [numberOf, if_pos hn]
      obtain ⟨m, rfl⟩ := Int.eq_ofNat_of_zero_le hn.1
      rw [Int.toNat_natCast]
      have hpl := packN_len 9 m
      refine ab 1000 rfl trivial ?_
      refine S_cond rfl (fun h => by cases h) (fun _ => ?_)
      refine ab 1000 rfl ⟨?_, trivial⟩ ?_
      · show ((packN 9 m).length + b.length : Nat) ≤ (9223372036854775807 : Int); omega
      have hR := ReadNumber_ok (packN 9 m ++ b) (by rw [List.length_append]; omega)
      rw [readN_of_pack m b (by omega)] at hR
      refine S_pure rfl rfl rfl hR (.cons (.refl .str) (.nil _)) ?_
      refine ab 1000 rfl trivial ?_
      refine S_guard rfl rfl rfl rfl (fun _ => ?_) (fun h => by cases h)
      refine ab 1000 rfl trivial ?_
      refine S_guard rfl rfl rfl rfl (fun _ => ?_) (fun h => absurd (h.symm.trans (ibeq _)) (by decide))
      refine ab 1000 rfl trivial ?_
      refine S_retc .bool rfl trivial ?_
      exact congrArg _ (ibeq _)
    · rw [numberOf, if_neg hn]
      refine ab 1000 rfl trivial ?_
      refine S_cond rfl (fun _ => ?_) (fun h => by cases h)
      refine ab 1000 rfl trivial ?_
      exact S_retc .bool rfl trivial rfl

theorem packTs_length (l : List (List UInt8)) (hc : checkL l 2000 = 0) : (packTs l).length ≤ 1000000000 := by
  obtain ⟨h1, h2⟩ := checkL_ok hc
  have := flatMap_packT_length l h2
  have := packN_len 9 l.length
  simp only [packTs, List.length_append]; omega

theorem WireBackTexts_ok {st fl st' fl' : Bool} (l other : List (List UInt8)) (hl : l.length ≤ 1048576) (ho : other.length ≤ 1048576) : Calc cx 5 [.sl st fl 1 (texts l), .sl st' fl' 1 (texts other)] (.bool true) :=
  pure_intro (fun a w => Try.call5 a w) Try.func5 rfl Try.ntmps5 rfl .bool fun B => by
    have lend : ∀ σ : Heap, Frz false σ (.sl st fl 1 (texts l)) (.sl st fl 1 (texts l)) := fun σ => .refl (.sl (fun h => by cases h) (texts_any l))
    have lent : ∀ σ : Heap, Frz false σ (.sl true false 1 (texts l)) (.sl true false 1 (texts l)) := fun σ => .refl (.sl (fun h => by cases h) (texts_any l))
    have leno : ∀ σ : Heap, Frz false σ (.sl st' fl' 1 (texts other)) (.sl st' fl' 1 (texts other)) := fun σ => .refl (.sl (fun h => by cases h) (texts_any other))
    refine ab 1000 rfl trivial ?_
    refine S_pure rfl rfl rfl wireBegun_ok (.nil _) ?_
    refine ab 1000 rfl trivial ?_
    refine S_cond rfl (fun h => by cases h) (fun _ => ?_)
    refine ab 1000 rfl trivial ?_
    refine S_pure rfl rfl rfl (Texts_ok (st := st) (fl := fl) l (by omega)) (.cons (lend _) (.nil _)) ?_
    rw [textsOf_check]
    by_cases hc : checkL l 2000 = 0
    · rw [if_pos hc]
      refine ab 1000 rfl trivial ?_
      refine S_cond rfl (fun h => by cases h) (fun _ => ?_)
      refine ab 1000 rfl trivial ?_
      have hpl := packTs_length l hc
      have hR := ReadTexts_ok (packTs l) (by omega)
      rw [readT_pack l hc] at hR
      refine S_pure rfl rfl rfl hR (.cons (.refl .str) (.nil _)) ?_
      refine ab 1000 rfl trivial ?_
      refine S_pure rfl rfl rfl (Texts_ok (st := st') (fl := fl') other (by omega)) (.cons (leno _) (.nil _)) ?_
      rw [textsOf_check]
      refine ab 1000 rfl trivial ?_
      refine S_guard rfl rfl rfl rfl (fun _ => ?_) (fun h => by cases h)
      refine ab 1000 rfl trivial ?_
      refine S_pure rfl rfl rfl (SameTexts_ok (st := st) (st' := true) (fl := fl) (fl' := false) l l (by omega) (by omega)) (.cons (lend _) (.cons (lent _) (.nil _))) ?_
      rw [show (l == l) = true by simp]
      refine ab 1000 rfl trivial ?_
      refine S_guard rfl rfl rfl rfl (fun _ => ?_) (fun h => by cases h)
      by_cases hd : checkL other 2000 = 0
      · rw [if_pos hd]
        refine ab 1000 rfl trivial ?_
        refine S_guard rfl rfl rfl rfl (fun h => by cases h) (fun _ => ?_)
        refine ab 1000 rfl trivial ?_
        refine S_pure rfl rfl rfl (SameTexts_ok (st := st) (st' := st') (fl := fl) (fl' := fl') l other (by omega) (by omega)) (.cons (lend _) (.cons (leno _) (.nil _))) ?_
        refine ab 1000 rfl trivial ?_
        refine S_retc .bool rfl trivial ?_
        show AV.bool ((packTs l == packTs other) == (l == other)) = _
        by_cases he : l = other
        · subst he; simp
        · rw [beq_eq_false_iff_ne.2 he, beq_eq_false_iff_ne.2 (fun h => he (packTs_inj hc hd h))]; rfl
      · rw [if_neg hd]
        generalize checkL other 2000 = e at *
        have hne : (((e : Nat) : Int) != 0) = true := by simp; omega
        refine ab 1000 rfl trivial ?_
        refine S_guard rfl rfl rfl rfl (fun _ => ?_) (fun h => absurd (h.symm.trans hne) (by decide))
        refine ab 1000 rfl trivial ?_
        exact S_retc .bool rfl trivial rfl
    · rw [if_neg hc]
      generalize checkL l 2000 = e at *
      have hne : (((e : Nat) : Int) != 0) = true := by simp; omega
      refine ab 1000 rfl trivial ?_
      refine S_cond rfl (fun _ => ?_) (fun h => absurd (h.symm.trans hne) (by decide))
      refine ab 1000 rfl trivial ?_
      exact S_retc .bool rfl trivial rfl

end Go.Proofs.Ytjbgcbolakdhaab
