/-
  Texts packed by the program.
-/
import Derived.Test.YtjpmngjoohoddaaDoorWireA
import Derived.Test.YtjpmngjoohoddaaDoorRefT
set_option linter.unusedVariables false
set_option linter.unusedSimpArgs false
set_option maxRecDepth 20000
namespace Go.Proofs.YtjpmngjoohoddaaDoor
open Go Go.Ab

theorem long_ok {st fl : Bool} (l : List (List UInt8)) (most : Nat) (hl : l.length ≤ 9223372036854775806) : Calc cx 25 [.sl st fl 1 (texts l), .int .i64 most] (.bool (l.any (fun s => decide (100000 < s.length)) || decide (most < l.length))) :=
  pure_intro (fun a w => Tryd.call25 a w) Tryd.func25 rfl Tryd.ntmps25 rfl .bool fun B => by
    refine ab 1000 rfl trivial ?_
    have htl : (texts l).length = l.length := by simp [texts]
    refine S_while (α := Nat) (fun i => [(0, .sl st fl 1 (texts l)), (1, .int .i64 most), (7, .sl st fl 1 (texts l)), (8, .int .i64 l.length), (9, .int .i64 i)]) (fun _ => []) (fun i => i ≤ l.length ∧ (l.take i).any (fun s => decide (100000 < s.length)) = false) (fun i => l.length - i) 0
      ⟨Nat.zero_le _, rfl⟩ (.cons rfl (.cons rfl (.cons rfl (.cons (by rw [← htl]; rfl) (.cons rfl (.nil _)))))) rfl ?_
    rintro i ⟨hi, hN⟩
    refine ab 1000 rfl trivial ?_
    refine S_dec rfl (fun hlt => ?_) (fun hlt => ?_)
    · have hil : i < l.length := by omega
      refine ab 1000 rfl trivial ?_
      refine S_index (.str l[i]) rfl rfl rfl ⟨rfl, by omega, by simp [texts, List.getElem?_eq_getElem hil], trivial⟩ ?_
      refine ab 1000 rfl trivial ?_
      refine S_dec rfl (fun hb => ?_) (fun hb => ?_)
      · have hb : 100000 < l[i].length := by omega
        refine ab 1000 rfl trivial ?_
        refine S_retc .bool rfl trivial ?_
        rw [show l.any (fun s => decide (100000 < s.length)) = true from List.any_eq_true.2 ⟨l[i], List.getElem_mem hil, by simpa using hb⟩]; rfl
      · have hb : ¬ 100000 < l[i].length := by omega
        refine ab 1000 rfl trivial ?_
        refine S_round (i + 1) (by show l.length - (i + 1) < l.length - i; omega) ⟨hil, ?_⟩ (.cons rfl (.cons rfl (.cons rfl (.cons rfl (.cons (ai64 rfl (by omega)) (.nil _)))))) rfl
        rw [List.take_succ_eq_append_getElem hil, List.any_append, hN]
        simp; omega
    · have hil : i = l.length := by omega
      refine ab 1000 rfl trivial ?_
      refine S_retc .bool rfl trivial ?_
      rw [hil, List.take_length] at hN
      rw [hN]
      show AV.bool (decide (((texts l).length : Int) > most)) = _
      rw [htl]
      congr 1
      simp only [Bool.false_or, decide_eq_decide]; omega

def packT (s : List UInt8) : List UInt8 := packN 9 s.length ++ s
def packTs (l : List (List UInt8)) : List UInt8 := packN 9 l.length ++ l.flatMap packT

theorem text_ok (v u : Nat) (a : AV) (ha : a = .nilp ∨ a = .ptr 0 v 0) (bs s : List UInt8) (hl : bs.length + 10 + s.length ≤ 140737488355328) :
    CallOk cx 32 [.ptr 0 v 0, .str s] (pk v u a bs) (fun o σ' => o = .ret (.tup []) ∧ ∃ u', σ' = pk v u' (.ptr 0 v 0) (bs ++ packT s)) :=
  callOk_intro (fun a w => Tryd.call32 a w) Tryd.func32 rfl Tryd.ntmps32 rfl fun B => by
    refine ab 1000 rfl trivial ?_
    have hpl := packN_len 9 s.length
    refine S_call rfl rfl rfl (number_ok v u a ha bs s.length (by omega) (by omega)) ?_ (fun v σ' h => by cases h.1)
    rintro _ _ ⟨⟨⟩, u', rfl⟩
    refine ab 1000 rfl trivial ?_
    refine S_call rfl rfl rfl (writeString_ok holdsPacker v u' _ (.inr rfl) (bs ++ packN 9 s.length) s (by simp; omega)) ?_ (fun v σ' h => by cases h.1)
    rintro _ _ ⟨⟨⟩, rfl⟩
    refine ab 1000 rfl trivial ?_
    refine S_nil ⟨_, _, rfl, trivial, rfl, u' + 1, ?_⟩
    simp only [packT, ← List.append_assoc]; rfl

theorem flatMap_packT_length : ∀ (l : List (List UInt8)) (h : ∀ s ∈ l, s.length ≤ 100000), (l.flatMap packT).length ≤ 100010 * l.length
  | [], _ => by simp
  | s :: r, h => by
    have h1 := flatMap_packT_length r (fun x hx => h x (List.mem_cons_of_mem _ hx))
    have h2 := h s (List.mem_cons_self ..)
    have h3 := packN_len 9 s.length
    rw [List.flatMap_cons, List.length_append, List.length_cons]
    simp only [packT, List.length_append]
    omega

theorem packerTexts_ok {st fl : Bool} (v u : Nat) (a : AV) (ha : a = .nilp ∨ a = .ptr 0 v 0) (bs : List UInt8) (l : List (List UInt8)) (hn : l.length ≤ 1048576) (hs : ∀ s ∈ l, s.length ≤ 100000) (hl : bs.length ≤ 1048576000) :
    CallOk cx 31 [.ptr 0 v 0, .sl st fl 1 (texts l)] (pk v u a bs) (fun o σ' => o = .ret (.tup []) ∧ ∃ u', σ' = pk v u' (.ptr 0 v 0) (bs ++ packTs l)) :=
  callOk_intro (fun a w => Tryd.call31 a w) Tryd.func31 rfl Tryd.ntmps31 rfl fun B => by
    refine ab 1000 rfl trivial ?_
    have hpl := packN_len 9 l.length
    have htl : (texts l).length = l.length := by simp [texts]
    refine S_call rfl rfl rfl (number_ok v u a ha bs (texts l).length (by omega) (by omega)) ?_ (fun v σ' h => by cases h.1)
    rintro _ _ ⟨⟨⟩, u', rfl⟩
    rw [htl]
    refine ab 1000 rfl trivial ?_
    refine S_while (α := Nat × Nat) (fun (i, u) => [(0, .ptr 0 v 0), (10, .sl st fl 1 (texts l)), (11, .int .i64 l.length), (12, .int .i64 i)]) (fun (i, u) => pk v u (.ptr 0 v 0) (bs ++ packN 9 l.length ++ (l.take i).flatMap packT)) (fun (i, u) => i ≤ l.length) (fun (i, u) => l.length - i) (0, u')
      (Nat.zero_le _) (.cons rfl (.cons rfl (.cons (by rw [← htl]; rfl) (.cons rfl (.nil _))))) (by simp only [List.take_zero, List.flatMap_nil, List.append_nil]; rfl) ?_
    rintro ⟨i, u⟩ hi
    have hfl := flatMap_packT_length (l.take i) (fun s h => hs s (List.mem_of_mem_take h))
    have htk : (l.take i).length ≤ 1048576 := by simp; omega
    refine ab 1000 rfl trivial ?_
    refine S_dec rfl (fun hlt => ?_) (fun hlt => ?_)
    · have hil : i < l.length := by omega
      have hsl := hs _ (List.getElem_mem hil)
      refine ab 1000 rfl trivial ?_
      refine S_index (.str l[i]) rfl rfl rfl ⟨rfl, by omega, by simp [texts, List.getElem?_eq_getElem hil], trivial⟩ ?_
      refine ab 1000 rfl trivial ?_
      refine S_call rfl rfl rfl (text_ok v u _ (.inr rfl) (bs ++ packN 9 l.length ++ (l.take i).flatMap packT) l[i] (by simp only [List.length_append]; omega)) ?_ (fun v σ' h => by cases h.1)
      rintro _ _ ⟨⟨⟩, u'', rfl⟩
      refine ab 1000 rfl trivial ?_
      refine S_round (i + 1, u'') (by show l.length - (i + 1) < l.length - i; omega) hil (.cons rfl (.cons rfl (.cons rfl (.cons (ai64 rfl (by omega)) (.nil _))))) ?_
      show pk _ _ _ _ = pk _ _ _ _
      rw [List.take_succ_eq_append_getElem hil]
      simp only [List.flatMap_append, List.flatMap_cons, List.flatMap_nil, List.append_nil, List.append_assoc]
    · have hil : i = l.length := by omega
      refine ab 1000 rfl trivial ?_
      refine S_nil ⟨_, _, rfl, trivial, rfl, u, ?_⟩
      rw [hil, List.take_length]
      show pk _ _ _ _ = pk _ _ _ _
      rw [packTs, List.append_assoc]

/-- What Texts answers. -/
def textsOf (l : List (List UInt8)) : List UInt8 × Nat := if l.any (fun s => decide (100000 < s.length)) || decide (2000 < l.length) then ([], 2) else (packTs l, 0)

theorem Texts_ok {st fl : Bool} (l : List (List UInt8)) (hn : l.length ≤ 9223372036854775806) :
    Calc cx 47 [.sl st fl 1 (texts l)] (.tup [.str (textsOf l).1, .int .i64 (textsOf l).2]) :=
  pure_intro (fun a w => Tryd.call47 a w) Tryd.func47 rfl Tryd.ntmps47 rfl (ans_free _ _) fun B => by
    refine ab 1000 rfl trivial ?_
    refine S_pure rfl rfl rfl (long_ok (st := st) (fl := fl) l 2000 (by omega)) (.cons (.refl (.sl (fun h => by cases h) (texts_any l))) (.cons (.refl .int) (.nil _))) ?_
    refine ab 1000 rfl trivial ?_
    refine S_cond rfl (fun h => ?_) (fun h => ?_)
    · refine ab 1000 rfl trivial ?_
      refine S_retc (ans_free _ _) rfl trivial ?_
      rw [textsOf, if_pos h]; rfl
    · have hs : ∀ s ∈ l, s.length ≤ 100000 := by
        intro s hs
        simp only [Bool.or_eq_false_iff, List.any_eq_false, decide_eq_true_eq] at h
        have := h.1 s hs; omega
      have hn2 : l.length ≤ 2000 := by
        simp only [Bool.or_eq_false_iff, decide_eq_false_iff_not] at h
        omega
      refine ab 1000 rfl trivial ?_
      refine S_ghost 1 ⟨false, some 5⟩ (id := 0) (j := 1) rfl rfl rfl (show (0 : Nat) ≠ 1 by decide) ⟨.skip, _, .inr ⟨_, _, _, rfl⟩⟩ ?_
      refine S_call rfl rfl rfl (packerTexts_ok 0 0 .nilp (.inl rfl) [] l (by omega) hs (by decide)) ?_ (fun v σ' h => by cases h.1)
      rintro _ _ ⟨⟨⟩, u', rfl⟩
      refine ab 1000 rfl trivial ?_
      have hfl := flatMap_packT_length l hs
      have hpl := packN_len 9 l.length
      refine S_call rfl rfl rfl (done_ok 0 u' _ (packTs l) ?_ ?_) ?_ (fun v σ' h => by cases h.1)
      · simp [packTs, packN_ne]
      · simp only [packTs, List.length_append]; omega
      rintro _ _ ⟨⟨⟩, rfl⟩
      refine ab 1000 rfl trivial ?_
      refine S_retc (ans_free _ _) rfl trivial ?_
      rw [textsOf, if_neg (by rw [h]; decide)]; rfl

end Go.Proofs.YtjpmngjoohoddaaDoor
