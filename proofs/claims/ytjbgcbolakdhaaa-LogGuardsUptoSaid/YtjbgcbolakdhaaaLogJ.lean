/-
  Lists of texts that are too long; the log made small.
-/
import Derived.Test.YtjbgcbolakdhaaaLogI
import Derived.Test.YtjbgcbolakdhaaaRefC
set_option linter.unusedVariables false
set_option linter.unusedSimpArgs false
set_option maxRecDepth 20000
namespace Go.Proofs.Ytjbgcbolakdhaaa
open Go Go.Ab

def entriesOf (l : List (List UInt8)) : List UInt8 := l.flatMap entryOf

theorem entriesOf_length : ∀ (l : List (List UInt8)) (h : ∀ s ∈ l, s.length ≤ 100000), (entriesOf l).length ≤ 100020 * l.length
  | [], _ => by simp [entriesOf]
  | s :: r, h => by
    have h1 := entriesOf_length r (fun x hx => h x (List.mem_cons_of_mem _ hx))
    have h2 := h s (List.mem_cons_self ..)
    have h3 := packN_len 9 s.length
    have h4 : (entryOf s).length ≤ s.length + 20 := by simp [entryOf, le4]; omega
    have h5 : entriesOf (s :: r) = entryOf s ++ entriesOf r := rfl
    rw [h5, List.length_append, List.length_cons]
    omega

/-- What Compact hands back. -/
def compactOf (l : List UInt8) (keep : List (List UInt8)) : List UInt8 := if checkL keep 2000 = 0 then entriesOf keep ++ l.drop (l.length - (readAll l.length l).2.length) else []

theorem checkL_bad {keep : List (List UInt8)} {i : Nat} (hk : keep.length ≤ 2000) (hi : i < keep.length) (hb : 100000 < keep[i].length) : checkL keep 2000 = 2 := by
  rw [checkL, if_neg (by omega), if_pos (List.any_eq_true.2 ⟨keep[i], List.getElem_mem hi, by simpa using hb⟩)]

theorem Compact_ok {st fl : Bool} (l : List UInt8) (keep : List (List UInt8)) (hl : l.length ≤ 4398046511104) (hk : keep.length ≤ 9223372036854775806) :
    Calc cx 23 [.str l, .sl st fl 1 (texts keep)] (.tup [.str (compactOf l keep), .int .i64 (checkL keep 2000 : Nat)]) :=
  pure_intro (fun a w => Try.call23 a w) Try.func23 rfl Try.ntmps23 rfl (ans_free _ _) fun B => by
    refine ab 1000 rfl trivial ?_
    refine S_dec rfl (fun h => ?_) (fun h => ?_)
    · have h : 2000 < keep.length := by simp [texts] at h; omega
      have hc : checkL keep 2000 = 2 := by rw [checkL, if_pos h]
      refine ab 1000 rfl trivial ?_
      refine S_retc (ans_free _ _) rfl trivial ?_
      rw [compactOf, hc, if_neg (by decide)]; rfl
    · have h : keep.length ≤ 2000 := by simp [texts] at h; omega
      refine ab 1000 rfl trivial ?_
      refine S_while (α := Nat) (fun i => [(0, .str l), (6, .str (entriesOf (keep.take i))), (16, .sl st fl 1 (texts keep)), (17, .int .i64 ((texts keep).length : Nat)), (18, .int .i64 i)]) (fun _ => []) (fun i => i ≤ keep.length ∧ ∀ s ∈ keep.take i, s.length ≤ 100000) (fun i => keep.length - i) 0
        ⟨Nat.zero_le _, by simp⟩ (.cons rfl (.cons rfl (.cons rfl (.cons rfl (.cons rfl (.nil _)))))) rfl ?_
      rintro i ⟨hi, hN⟩
      have hel := entriesOf_length (keep.take i) hN
      have htl : (keep.take i).length ≤ 2000 := by simp; omega
      refine ab 1000 rfl trivial ?_
      refine S_dec rfl (fun hlt => ?_) (fun hlt => ?_)
      · have hil : i < keep.length := by simp [texts] at hlt; omega
        refine ab 1000 rfl trivial ?_
        refine S_index (.str keep[i]) rfl rfl rfl ⟨rfl, by omega, by simp [texts, List.getElem?_eq_getElem hil], trivial⟩ ?_
        refine ab 1000 rfl trivial ?_
        refine S_pure rfl rfl rfl (Append_any (entriesOf (keep.take i)) keep[i] (by omega)) (.cons (.refl .str) (.cons (.refl .str) (.nil _))) ?_
        by_cases hb : 100000 < keep[i].length
        · rw [if_pos hb, if_pos hb]
          have hc := checkL_bad h hil hb
          refine ab 1000 rfl trivial ?_
          refine S_cond rfl (fun _ => ?_) (fun hh => absurd hh (by decide))
          refine ab 1000 rfl trivial ?_
          refine S_retc (ans_free _ _) rfl trivial ?_
          rw [compactOf, hc, if_neg (by decide)]; rfl
        · rw [if_neg hb, if_neg hb]
          refine ab 1000 rfl trivial ?_
          refine S_cond rfl (fun hh => absurd hh (by decide)) (fun _ => ?_)
          refine ab 1000 rfl trivial ?_
          refine S_round (i + 1) (by show keep.length - (i + 1) < keep.length - i; omega) ⟨hil, ?_⟩ (.cons rfl (.cons ?_ (.cons rfl (.cons rfl (.cons (ai64 rfl (by omega)) (.nil _)))))) rfl
          · intro s hs
            rw [List.take_succ_eq_append_getElem hil] at hs
            rcases List.mem_append.1 hs with hs | hs
            · exact hN s hs
            · simp at hs; subst hs; omega
          · show AV.str (entriesOf (keep.take i) ++ entryOf keep[i]) = .str (entriesOf (keep.take (i + 1)))
            rw [List.take_succ_eq_append_getElem hil]
            simp only [entriesOf, List.flatMap_append, List.flatMap_cons, List.flatMap_nil, List.append_nil]
      · have hil : i = keep.length := by simp [texts] at hlt; omega
        rw [hil, List.take_length] at hN hel
        have hc : checkL keep 2000 = 0 := by
          rw [checkL, if_neg (by omega), if_neg]
          intro ha
          obtain ⟨s, hs, hb⟩ := List.any_eq_true.1 ha
          have := hN s hs
          simp at hb; omega
        refine ab 1000 rfl trivial ?_
        refine S_pure rfl rfl rfl (Read_ok l hl) (.cons (.refl .str) (.nil _)) ?_
        have hm : l.length - (readAll l.length l).2.length ≤ l.length := by omega
        have hco : compactOf l keep = entriesOf keep ++ l.drop (l.length - (readAll l.length l).2.length) := by rw [compactOf, if_pos hc]
        generalize l.length - (readAll l.length l).2.length = m at *
        refine ab 1000 rfl ⟨?_, by omega, by omega, trivial⟩ ?_
        · show (((entriesOf (keep.take i)).length + (l.drop ((m : Nat) : Int).toNat).length : Nat) : Int) ≤ 9223372036854775807
          rw [hil, List.take_length]; simp; omega
        refine S_retc (ans_free _ _) rfl trivial ?_
        rw [hco, hc]
        show AV.tup [.str (entriesOf (keep.take i) ++ l.drop ((m : Nat) : Int).toNat), .int .i64 0] = _
        rw [hil, List.take_length]; rfl

end Go.Proofs.Ytjbgcbolakdhaaa
