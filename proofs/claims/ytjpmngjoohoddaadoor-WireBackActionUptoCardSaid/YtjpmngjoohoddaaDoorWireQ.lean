/-
  Texts that are packed are read as they were.
-/
import Derived.Test.YtjpmngjoohoddaaDoorWireV
import Derived.Test.YtjpmngjoohoddaaDoorRefC
set_option linter.unusedVariables false
set_option linter.unusedSimpArgs false
set_option maxRecDepth 20000
namespace Go.Proofs.YtjpmngjoohoddaaDoor
open Go Go.Ab

theorem checkL_ok {l : List (List UInt8)} (hc : checkL l 2000 = 0) : l.length ≤ 2000 ∧ ∀ s ∈ l, s.length ≤ 100000 := by
  have hk2 : l.length ≤ 2000 := by
    rcases Nat.lt_or_ge 2000 l.length with h | h
    · rw [checkL, if_pos h] at hc; cases hc
    · exact h
  refine ⟨hk2, fun s hs => ?_⟩
  rcases Nat.lt_or_ge 100000 s.length with h | h
  · rw [checkL, if_neg (by omega), if_pos (List.any_eq_true.2 ⟨s, hs, by simpa using h⟩)] at hc; cases hc
  · exact h

theorem textsOf_check (l : List (List UInt8)) : textsOf l = (if checkL l 2000 = 0 then (packTs l, 0) else ([], checkL l 2000)) := by
  unfold textsOf checkL
  by_cases h1 : 2000 < l.length
  · rw [if_pos h1, if_pos (by simp [h1])]; rfl
  · rw [if_neg h1]
    by_cases h2 : l.any (fun s => decide (100000 < s.length)) = true
    · rw [if_pos h2, if_pos (by rw [h2]; rfl)]; rfl
    · rw [if_neg h2, if_neg (by simp only [Bool.or_eq_true, not_or]; exact ⟨h2, by simpa using h1⟩)]; rfl

theorem flat_ge : ∀ (l : List (List UInt8)), l.length ≤ (l.flatMap packT).length
  | [] => by simp
  | s :: r => by
    have := flat_ge r
    have := packT_pos s
    simp only [List.flatMap_cons, List.length_append, List.length_cons]; omega

theorem rRep_pack : ∀ (l : List (List UInt8)) (rest : List UInt8), (∀ s ∈ l, s.length ≤ 100000) → rRep l.length (l.flatMap packT ++ rest) = some (l, rest)
  | [], rest, h => rfl
  | s :: r, rest, h => by
    have hs := h s (List.mem_cons_self ..)
    rw [List.flatMap_cons, List.append_assoc, List.length_cons, rRep, rText_pack s _ (by omega)]
    simp only [rRep_pack r rest (fun x hx => h x (List.mem_cons_of_mem _ hx))]

theorem rTexts_pack (l : List (List UInt8)) (rest : List UInt8) (hn : l.length ≤ 2000) (h : ∀ s ∈ l, s.length ≤ 100000) : rTexts (packTs l ++ rest) = some (l, rest) := by
  unfold rTexts rMany packTs
  rw [List.append_assoc, rNum_pack _ _ (by omega)]
  have := flat_ge l
  simp only
  rw [if_neg (by simp only [List.length_append]; omega)]
  exact rRep_pack l rest h

theorem readT_pack (l : List (List UInt8)) (hc : checkL l 2000 = 0) : readT (packTs l) = (l, 0) := by
  obtain ⟨h1, h2⟩ := checkL_ok hc
  have := rTexts_pack l [] h1 h2
  rw [List.append_nil] at this
  simp only [readT, this, textsOf_check, if_pos hc, if_true]

theorem readT_ok {s : List UInt8} {ts : List (List UInt8)} {e : Nat} (h : readT s = (ts, e)) : (e = 0 ∧ checkL ts 2000 = 0 ∧ packTs ts = s) ∨ (e = 1 ∧ ts = []) := by
  unfold readT at h
  split at h
  · cases h; exact .inr ⟨rfl, rfl⟩
  · rename_i ts' r hx
    rw [textsOf_check] at h
    by_cases hc : checkL ts' 2000 = 0
    · rw [if_pos hc] at h
      by_cases hp : packTs ts' = s
      · subst hp
        rw [if_pos rfl] at h
        cases h
        exact .inl ⟨rfl, hc, rfl⟩
      · rw [if_neg (by simpa using hp)] at h
        cases h; exact .inr ⟨rfl, rfl⟩
    · rw [if_neg hc, if_neg (by simp only [Prod.mk.injEq, not_and]; intro _; exact hc)] at h
      cases h; exact .inr ⟨rfl, rfl⟩

theorem packTs_inj {a b : List (List UInt8)} (ha : checkL a 2000 = 0) (hb : checkL b 2000 = 0) (h : packTs a = packTs b) : a = b := by
  have h1 := readT_pack a ha
  rw [h, readT_pack b hb] at h1
  exact (congrArg Prod.fst h1).symm

end Go.Proofs.YtjpmngjoohoddaaDoor
