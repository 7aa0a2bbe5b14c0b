/-
  The law LogJoins.
-/
import Derived.Test.YtjbgcbolakdhaaaLogL
set_option linter.unusedVariables false
set_option linter.unusedSimpArgs false
set_option maxRecDepth 20000
namespace Go.Proofs.Ytjbgcbolakdhaaa
open Go Go.Ab

theorem readAll_rest : ∀ f l, (readAll f l).2.length ≤ l.length
  | 0, l => by simp [readAll]
  | f + 1, l => by
    rw [readAll]
    split
    · rename_i h
      have := nextL_short l h
      have := readAll_rest f (nextL l).2.1
      simp; omega
    · simp

theorem LogJoins_ok {st fl : Bool} (l : List (List UInt8)) (b : List UInt8) (hl : l.length ≤ 1048576) (hb : b.length ≤ 1048576) : Calc cx 8 [.sl st fl 1 (texts l), .str b] (.bool true) :=
  pure_intro (fun a w => Try.call8 a w) Try.func8 rfl Try.ntmps8 rfl .bool fun B => by
    refine ab 1000 rfl trivial ?_
    refine S_pure rfl rfl rfl logBegun_ok (.nil _) ?_
    refine ab 1000 rfl trivial ?_
    refine S_cond rfl (fun h => absurd h (by decide)) (fun _ => ?_)
    refine ab 1000 rfl trivial ?_
    refine S_while (α := Nat) (fun i => [(0, .sl st fl 1 (texts l)), (1, .str b), (5, .str (entriesOf (l.take i))), (6, .int .i64 i)]) (fun _ => []) (fun i => i ≤ l.length ∧ ∀ s ∈ l.take i, s.length ≤ 100000) (fun i => l.length - i) 0
      ⟨Nat.zero_le _, by simp⟩ (.cons rfl (.cons rfl (.cons rfl (.cons rfl (.nil _))))) rfl ?_
    rintro i ⟨hi, hN⟩
    have hel := entriesOf_length (l.take i) hN
    have htl : (l.take i).length ≤ 1048576 := by simp; omega
    refine ab 1000 rfl trivial ?_
    refine S_dec rfl (fun hlt => ?_) (fun hlt => ?_)
    · have hil : i < l.length := by simp [texts] at hlt; omega
      refine ab 1000 rfl trivial ?_
      refine S_index (.str l[i]) rfl rfl rfl ⟨rfl, by omega, by simp [texts, List.getElem?_eq_getElem hil], trivial⟩ ?_
      refine ab 1000 rfl trivial ?_
      refine S_pure rfl rfl rfl (Append_any (entriesOf (l.take i)) l[i] (by omega)) (.cons (.refl .str) (.cons (.refl .str) (.nil _))) ?_
      by_cases hbig : 100000 < l[i].length
      · rw [if_pos hbig, if_pos hbig]
        refine ab 1000 rfl trivial ?_
        refine S_cond rfl (fun _ => ?_) (fun hh => absurd hh (by decide))
        refine ab 1000 rfl trivial ?_
        exact S_retc .bool rfl trivial rfl
      · rw [if_neg hbig, if_neg hbig]
        refine ab 1000 rfl trivial ?_
        refine S_cond rfl (fun hh => absurd hh (by decide)) (fun _ => ?_)
        refine ab 1000 rfl trivial ?_
        refine S_round (i + 1) (by show l.length - (i + 1) < l.length - i; omega) ⟨hil, ?_⟩ (.cons rfl (.cons rfl (.cons ?_ (.cons (ai64 rfl (by omega)) (.nil _))))) rfl
        · intro s hs
          rw [List.take_succ_eq_append_getElem hil] at hs
          rcases List.mem_append.1 hs with hs | hs
          · exact hN s hs
          · simp at hs; subst hs; omega
        · show AV.str (entriesOf (l.take i) ++ entryOf l[i]) = .str (entriesOf (l.take (i + 1)))
          rw [List.take_succ_eq_append_getElem hil]
          simp only [entriesOf, List.flatMap_append, List.flatMap_cons, List.flatMap_nil, List.append_nil]
    · have hil : i = l.length := by simp [texts] at hlt; omega
      rw [hil, List.take_length] at hN hel
      rw [hil, List.take_length]
      refine ab 1000 rfl trivial ?_
      refine S_pure rfl rfl rfl (Read_ok b (by omega)) (.cons (.refl .str) (.nil _)) ?_
      refine ab 1000 rfl ⟨by omega, trivial⟩ ?_
      have hR := Read_ok (entriesOf l ++ b) (by simp; omega)
      have hall := allOf_entries l b hN
      unfold allOf at hall
      rw [hall] at hR
      have hcnt := readAll_count b.length b
      have hrest := readAll_rest b.length b
      generalize readAll b.length b = R at *
      refine S_pure rfl rfl rfl hR (.cons (.refl .str) (.nil _)) ?_
      obtain ⟨ts, r⟩ := R
      simp only at hR hcnt hrest
      have hlt' : (texts l).length = l.length := by simp [texts]
      have hts' : (texts ts).length = ts.length := by simp [texts]
      refine ab 1000 rfl ⟨?_, ?_, ?_, rfl, rfl, texts_one ts, texts_one ts, rfl, ?_, ?_, .inr rfl, (fun y hy => by cases hy), rfl, texts_one l, texts_one l, rfl, trivial⟩ ?_
      · show 0 + (texts l).length + (texts ts).length ≤ 9223372036854775807; omega
      · show (0 + (texts l).length + (texts ts).length) * 16 ≤ 140737488355328; omega
      · show 0 + (0 + (texts l).length) * 1 = (([] : List AV) ++ texts l).length; simp
      · show 0 + (texts l).length ≤ 9223372036854775807; omega
      · show (0 + (texts l).length) * 16 ≤ 140737488355328; omega
      have hcells : ([] : List AV) ++ texts l ++ texts ts = texts (l ++ ts) := by simp [texts]
      refine S_pure rfl rfl rfl (SameTexts_ok (st := true) (st' := false) (fl := false) (fl' := false) (l ++ ts) (l ++ ts) (by simp; omega) (by simp; omega)) (.cons (.refl (.sl (fun h => by cases h) (texts_any (l ++ ts)))) (.cons ?_ (.nil _))) ?_
      · rw [← hcells]
        exact Frz.ms1 (xs := [] ++ texts l ++ texts ts) rfl (by rw [hcells]; exact texts_one _) (by simp) (by rw [hcells]; exact texts_any _)
      rw [show ((l ++ ts) == (l ++ ts)) = true by simp]
      have hlen : (entriesOf l ++ b).length = (entriesOf l).length + b.length := List.length_append
      have hw : IntKind.i64.wrap (((entriesOf l).length : Int) + ((b.length - r.length : Nat) : Int)) = (((entriesOf l ++ b).length - r.length : Nat) : Int) := w64 (by omega) (by omega)
      refine ab 1000 rfl trivial ?_
      refine S_guard rfl rfl rfl rfl (fun _ => ?_) (fun h => absurd h (by decide))
      refine ab 1000 rfl trivial ?_
      refine S_guard rfl rfl rfl rfl (fun _ => ?_) (fun h => absurd h ?_)
      · refine ab 1000 rfl trivial ?_
        refine S_retc .bool rfl trivial ?_
        show AV.bool (decide (((b.length - r.length : Nat) : Int) ≤ (b.length : Int))) = _
        rw [decide_eq_true (by omega)]
      · show ¬ (((((entriesOf l ++ b).length - r.length : Nat) : Int) == IntKind.i64.wrap (((entriesOf l).length : Int) + ((b.length - r.length : Nat) : Int))) = false)
        rw [hw]; simp

end Go.Proofs.Ytjbgcbolakdhaaa
