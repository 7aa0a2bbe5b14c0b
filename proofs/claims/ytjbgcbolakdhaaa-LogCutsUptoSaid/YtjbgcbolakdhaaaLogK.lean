/-
  The law LogCompacts.
-/
import Derived.Test.YtjbgcbolakdhaaaLogJ
set_option linter.unusedVariables false
set_option linter.unusedSimpArgs false
set_option maxRecDepth 20000
namespace Go.Proofs.Ytjbgcbolakdhaaa
open Go Go.Ab

theorem LogCompacts_ok {st fl : Bool} (l : List UInt8) (keep : List (List UInt8)) (hl : l.length ≤ 4398046511104) (hk : keep.length ≤ 9223372036854775806) :
    Calc cx 9 [.str l, .sl st fl 1 (texts keep)] (.bool true) :=
  pure_intro (fun a w => Try.call9 a w) Try.func9 rfl Try.ntmps9 rfl .bool fun B => by
    have lend : ∀ σ : Heap, Frz false σ (.sl st fl 1 (texts keep)) (.sl st fl 1 (texts keep)) := fun σ => .refl (.sl (fun h => by cases h) (texts_any keep))
    refine ab 1000 rfl trivial ?_
    refine S_pure rfl rfl rfl (Compact_ok (st := st) (fl := fl) l keep hl hk) (.cons (.refl .str) (.cons (lend _) (.nil _))) ?_
    refine ab 1000 rfl trivial ?_
    refine S_pure rfl rfl rfl (CheckList_ok (st := st) (fl := fl) keep 2000 hk) (.cons (lend _) (.cons (.refl .int) (.nil _))) ?_
    refine ab 1000 rfl trivial ?_
    refine S_beq rfl (fun hc => ?_) (fun hc => ?_)
    · have hc : checkL keep 2000 = 0 := by omega
      have hk2 : keep.length ≤ 2000 := by
        rcases Nat.lt_or_ge 2000 keep.length with h | h
        · rw [checkL, if_pos h] at hc; cases hc
        · exact h
      have hks : ∀ s ∈ keep, s.length ≤ 100000 := by
        intro s hs
        rcases Nat.lt_or_ge 100000 s.length with h | h
        · rw [checkL, if_neg (by omega), if_pos (List.any_eq_true.2 ⟨s, hs, by simpa using h⟩)] at hc; cases hc
        · exact h
      have hel := entriesOf_length keep hks
      refine ab 1000 rfl trivial ?_
      refine S_while (α := Nat) (fun i => [(0, .str l), (1, .sl st fl 1 (texts keep)), (5, .str (compactOf l keep)), (6, .int .i64 (checkL keep 2000 : Nat)), (7, .int .i64 (checkL keep 2000 : Nat)), (8, .str (entriesOf (keep.take i))), (9, .int .i64 i)]) (fun _ => []) (fun i => i ≤ keep.length) (fun i => keep.length - i) 0
        (Nat.zero_le _) (.cons rfl (.cons rfl (.cons rfl (.cons rfl (.cons rfl (.cons rfl (.cons rfl (.nil _)))))))) rfl ?_
      intro i hi
      have hel2 := entriesOf_length (keep.take i) (fun s hs => hks s (List.mem_of_mem_take hs))
      have htl : (keep.take i).length ≤ 2000 := by simp; omega
      refine ab 1000 rfl trivial ?_
      refine S_dec rfl (fun hlt => ?_) (fun hlt => ?_)
      · have hil : i < keep.length := by simp [texts] at hlt; omega
        have hs := hks _ (List.getElem_mem hil)
        refine ab 1000 rfl trivial ?_
        refine S_index (.str keep[i]) rfl rfl rfl ⟨rfl, by omega, by simp [texts, List.getElem?_eq_getElem hil], trivial⟩ ?_
        refine ab 1000 rfl trivial ?_
        refine S_pure rfl rfl rfl (EntryOf_ok keep[i] (by omega)) (.cons (.refl .str) (.nil _)) ?_
        have he : (entryOf keep[i]).length ≤ keep[i].length + 20 := by
          have := packN_len 9 keep[i].length
          simp [entryOf, le4]; omega
        refine ab 1000 rfl ⟨by omega, trivial⟩ ?_
        refine S_round (i + 1) (by show keep.length - (i + 1) < keep.length - i; omega) hil (.cons rfl (.cons rfl (.cons rfl (.cons rfl (.cons rfl (.cons ?_ (.cons (ai64 rfl (by omega)) (.nil _)))))))) rfl
        show AV.str (entriesOf (keep.take i) ++ entryOf keep[i]) = .str (entriesOf (keep.take (i + 1)))
        rw [List.take_succ_eq_append_getElem hil]
        simp only [entriesOf, List.flatMap_append, List.flatMap_cons, List.flatMap_nil, List.append_nil]
      · have hil : i = keep.length := by simp [texts] at hlt; omega
        subst hil
        rw [List.take_length]
        refine ab 1000 rfl trivial ?_
        refine S_pure rfl rfl rfl (LogEntries_ok l hl) (.cons (.refl .str) (.nil _)) ?_
        have hm : l.length - (readAll l.length l).2.length ≤ l.length := by omega
        have hco : compactOf l keep = entriesOf keep ++ l.drop (l.length - (readAll l.length l).2.length) := by rw [compactOf, if_pos hc]
        rw [hco, hc]
        generalize l.length - (readAll l.length l).2.length = m at *
        refine ab 1000 rfl ⟨?_, by omega, by omega, trivial⟩ ?_
        · show (((entriesOf keep).length + (l.drop ((m : Nat) : Int).toNat).length : Nat) : Int) ≤ 9223372036854775807
          simp; omega
        refine S_pure rfl rfl rfl logBegun_ok (.nil _) ?_
        refine ab 1000 rfl trivial ?_
        refine S_guard rfl rfl rfl rfl (fun _ => ?_) (fun h => absurd h (by decide))
        refine ab 1000 rfl trivial ?_
        refine S_pure rfl rfl rfl (textIs_ok (entriesOf keep ++ l.drop m) (entriesOf keep ++ l.drop m) 0 0) (.cons (.refl .str) (.cons (.refl .int) (.cons (.refl .int) (.cons (.refl .str) (.nil _))))) ?_
        rw [show ((0 : Nat) == 0 && (entriesOf keep ++ l.drop m) == (if (0 : Nat) = 0 then entriesOf keep ++ l.drop m else [])) = true by simp]
        refine ab 1000 rfl trivial ?_
        exact S_retc .bool rfl trivial rfl
    · have hc : checkL keep 2000 ≠ 0 := by omega
      have hco : compactOf l keep = [] := by rw [compactOf, if_neg hc]
      rw [hco]
      generalize checkL keep 2000 = e at *
      refine ab 1000 rfl trivial ?_
      refine S_pure rfl rfl rfl logBegun_ok (.nil _) ?_
      refine ab 1000 rfl trivial ?_
      refine S_guard rfl rfl rfl rfl (fun _ => ?_) (fun h => absurd h (by decide))
      refine ab 1000 rfl trivial ?_
      refine S_pure rfl rfl rfl (textIs_ok [] [] e e) (.cons (.refl .str) (.cons (.refl .int) (.cons (.refl .int) (.cons (.refl .str) (.nil _))))) ?_
      rw [show (e == e && ([] : List UInt8) == (if e = 0 then [] else [])) = true by simp]
      refine ab 1000 rfl trivial ?_
      exact S_retc .bool rfl trivial rfl

end Go.Proofs.Ytjbgcbolakdhaaa
