/-
  Actions packed: the reference's PackAction, the program's Action.
-/
import Derived.Test.YtjpmngjoohoddaaDoorActA
import Derived.Test.YtjpmngjoohoddaaDoorWireK
set_option linter.unusedVariables false
set_option linter.unusedSimpArgs false
set_option maxRecDepth 20000
namespace Go.Proofs.YtjpmngjoohoddaaDoor
open Go Go.Ab

theorem packTs_bd {l : List (List UInt8)} (h1 : l.length ≤ 60) (h2 : ∀ s ∈ l, s.length ≤ 100000) : (packTs l).length ≤ 6010000 := by
  have hf : ∀ (l : List (List UInt8)), (∀ s ∈ l, s.length ≤ 100000) → (l.flatMap packT).length ≤ l.length * 100010 := by
    intro l
    induction l with
    | nil => intro _; simp
    | cons a r ih =>
      intro h
      have := ih (fun s hs => h s (List.mem_cons_of_mem _ hs))
      have h3 := h a (List.mem_cons_self ..)
      have h4 := packN_len 9 a.length
      rw [List.flatMap_cons, List.length_append, List.length_cons, packT, List.length_append]; omega
  have := hf l h2
  have := packN_len 9 l.length
  rw [packTs, List.length_append]; omega

theorem PackAction_ok {st : Bool} (a : ActV) (ha : ActFit a) : Calc cx 12 [actAV st a] (.str (packA a)) :=
  pure_intro (fun a w => Tryd.call12 a w) Tryd.func12 rfl Tryd.ntmps12 rfl .str fun B => by
    obtain ⟨cmd, inp, outs, fuel⟩ := a
    obtain ⟨h1, h2, h3, h4, h5, m, rfl, hm⟩ := ha
    simp only at h1 h2 h3 h4 h5
    have lend : ∀ (σ : Heap) (x : List (List UInt8)), Frz false σ (.sl st false 1 (texts x)) (.sl st false 1 (texts x)) := fun σ x => .refl (.sl (fun h => by cases h) (texts_any x))
    have l1 := packTs_bd h1 h2
    have l2 : (packT inp).length ≤ 74 := by have := packN_len 9 inp.length; rw [packT, List.length_append]; omega
    have l3 := packTs_bd h4 (fun s hs => by have := h5 s hs; omega)
    have l4 := packN_len 9 m
    refine ab 1000 rfl trivial ?_
    refine S_draw 15 [] [.str (packTs cmd), .str (packT inp), .str (packTs outs), .str (packN 9 m)] rfl rfl rfl rfl ⟨rfl, rfl, rfl, ⟨_, PackTexts_ok (st := st) (fl := false) cmd (by omega) h2, .cons (lend _ _) (.nil _)⟩, rfl, rfl, rfl, ⟨_, PackText_ok inp (by omega), .cons (.refl .str) (.nil _)⟩, rfl, ?_, rfl, rfl, rfl, ⟨_, PackTexts_ok (st := st) (fl := false) outs (by omega) (fun s hs => by have := h5 s hs; omega), .cons (lend _ _) (.nil _)⟩, rfl, ?_, rfl, rfl, rfl, ⟨_, PackNumber_ok m (by omega), .cons (.refl .int) (.nil _)⟩, rfl, ?_, trivial⟩ ?_
    · omega
    · rw [List.length_append]; omega
    · rw [List.length_append, List.length_append]; omega
    refine ab 1000 rfl trivial ?_
    exact S_retc .str rfl trivial rfl

theorem actOut_ok (s : List UInt8) : Calc cx 28 [.str s] (.str s) :=
  pure_intro (fun a w => Tryd.call28 a w) Tryd.func28 rfl Tryd.ntmps28 rfl .str fun B => by
    refine ab 1000 rfl trivial ?_
    exact S_retc .str rfl trivial rfl

theorem risesS_ok {st fl : Bool} (l : List (List UInt8)) (hl : l.length ≤ 9223372036854775807) : Calc cx 27 [.sl st fl 1 (texts l), .func (.func 28) [] []] (.bool (riseB l)) :=
  pure_intro (fun a w => Tryd.call27 a w) Tryd.func27 rfl Tryd.ntmps27 rfl .bool fun B => by
    refine ab 1000 rfl trivial ?_
    have htl : (texts l).length = l.length := by simp [texts]
    refine S_while (α := Nat) (fun i => [(0, .sl st fl 1 (texts l)), (1, .func (.func 28) [] []), (5, .int .i64 (i : Nat))]) (fun _ => []) (fun i => 1 ≤ i ∧ (i = 1 ∨ i ≤ l.length) ∧ (List.range i).all (riseP l) = true) (fun i => l.length + 1 - i) 1
      ⟨Nat.le_refl _, .inl rfl, rfl⟩ (.cons rfl (.cons rfl (.cons rfl (.nil _)))) rfl ?_
    rintro i ⟨h1, h2, hN⟩
    refine ab 1000 rfl trivial ?_
    refine S_dec rfl (fun hil => ?_) (fun hil => ?_)
    · have hil : i < l.length := by have : ((i : Nat) : Int) < ((texts l).length : Nat) := hil; omega
      have hil' : i - 1 < l.length := by omega
      have hw : IntKind.i64.wrap ((i : Int) - 1) = ((i - 1 : Nat) : Int) := w64 (by omega) (by omega)
      have g1 : l[i] = l.getD i [] := by simp [List.getD, hil]
      have g2 : l[i - 1] = l.getD (i - 1) [] := by simp [List.getD, hil']
      refine ab 1000 rfl trivial ?_
      refine S_draw 14 [] [.str l[i], .str l[i], .str l[i - 1], .str l[i - 1]] rfl rfl rfl rfl ⟨rfl, rfl, rfl, rfl, by omega, by rw [Int.toNat_natCast]; simp [texts, List.getElem?_eq_getElem hil], rfl, ⟨_, actOut_ok l[i], .cons (.refl .str) (.nil _)⟩, rfl, rfl, rfl, rfl, rfl, by rw [hw]; omega, by rw [hw, Int.toNat_natCast]; simp [texts, List.getElem?_eq_getElem hil'], rfl, ⟨_, actOut_ok l[i - 1], .cons (.refl .str) (.nil _)⟩, rfl, trivial⟩ ?_
      refine ab 1000 rfl trivial ?_
      refine S_cond rfl (fun h => ?_) (fun h => ?_)
      · have h : leS l[i] l[i - 1] = true := h
        rw [g1, g2] at h
        refine ab 1000 rfl trivial ?_
        refine S_retc .bool rfl trivial ?_
        rw [rise_no hil h1 h]; rfl
      · have h : leS l[i] l[i - 1] = false := h
        rw [g1, g2] at h
        refine ab 1000 rfl trivial ?_
        exact S_round (i + 1) (by show l.length + 1 - (i + 1) < l.length + 1 - i; omega) ⟨by omega, .inr (by omega), rise_step hN h⟩ (.cons rfl (.cons rfl (.cons (ai64 rfl (by omega)) (.nil _)))) rfl
    · have hil : ¬ i < l.length := by have : ¬ ((i : Nat) : Int) < ((texts l).length : Nat) := hil; omega
      refine ab 1000 rfl trivial ?_
      refine S_retc .bool rfl trivial ?_
      have : riseB l = true := by
        rcases Nat.eq_zero_or_pos l.length with h | h
        · rw [riseB, h]; rfl
        · rw [riseB, show l.length = i by omega]; exact hN
      rw [this]; rfl

theorem checkL_ok' {l : List (List UInt8)} {k : Nat} (h : checkL l k = 0) : (l.any (fun s => decide (100000 < s.length)) || decide (k < l.length)) = false := by
  unfold checkL at h
  split at h
  · cases h
  split at h
  · cases h
  rename_i h1 h2
  rw [Bool.not_eq_true] at h2
  rw [h2, decide_eq_false h1]; rfl
theorem checkL_no {l : List (List UInt8)} {k : Nat} (h : (l.any (fun s => decide (100000 < s.length)) || decide (k < l.length)) = false) : checkL l k = 0 := by
  rw [Bool.or_eq_false_iff] at h
  rw [checkL, if_neg (of_decide_eq_false h.2), h.1, if_neg (by decide)]

theorem Action_ok {st : Bool} (a : ActV) (ha : ActOk a) : Calc cx 10 [actAV st a] (.tup [.str (if actE a = 0 then packA a else []), .int .i64 (actE a : Nat)]) :=
  pure_intro (fun a w => Tryd.call10 a w) Tryd.func10 rfl Tryd.ntmps10 rfl (ans_free _ _) fun B => by
    obtain ⟨cmd, inp, outs, fuel⟩ := a
    have hok := ha
    obtain ⟨ha1, ha2, ha3, ha4⟩ := ha
    simp only at ha1 ha2 ha3 ha4
    have lend : ∀ (σ : Heap) (x : List (List UInt8)), Frz false σ (.sl st false 1 (texts x)) (.sl st false 1 (texts x)) := fun σ x => .refl (.sl (fun h => by cases h) (texts_any x))
    have free_l : ∀ (x : List (List UInt8)), ∀ y ∈ [AV.sl st false 1 (texts x)], Free false y := fun x y hy => by simp at hy; subst hy; exact .sl (fun h => by cases h) (texts_any x)
    have htl : (texts outs).length = outs.length := by simp [texts]
    obtain ⟨aB, haB⟩ : ∃ aB : Nat × Option Box, aB = (0, some (.cells [.sl st false 1 (texts cmd), .str inp, .sl st false 1 (texts outs), .int .i64 fuel] ⟨false, some 26⟩)) := ⟨_, rfl⟩
    refine ab 1000 rfl ⟨rfl, trivial⟩ ?_
    refine S_ghost 1 ⟨false, some 5⟩ (id := 1) (j := 1) rfl rfl rfl (show (1 : Nat) ≠ 2 by decide) ⟨.skip, _, .inr ⟨_, _, _, rfl⟩⟩ ?_
    refine S_pure rfl rfl rfl (long_ok (st := st) (fl := false) cmd 60 (by omega)) (.cons (lend _ _) (.cons (.refl .int) (.nil _))) ?_
    obtain ⟨b1, hb1⟩ : ∃ b1 : Bool, b1 = decide (checkL cmd 60 ≠ 0 ∨ 60 < outs.length) := ⟨_, rfl⟩
    refine S_split 6 (fun fr σ => Weak fr [(1, .ptr 0 0 0), (4, .ptr 1 0 0), (9, .ptr 1 0 0), (18, .bool b1)] ∧ σ = [aB, pkB 1 2 0 0 .nilp [] 0, byB 0 []]) ?_ ?_
    · refine ab 1000 rfl trivial ?_
      refine S_guard rfl rfl rfl rfl (fun h => ?_) (fun h => ?_)
      · have h : checkL cmd 60 ≠ 0 := by
          have h' : (cmd.any (fun s => decide (100000 < s.length)) || decide (60 < cmd.length)) = true := h
          intro h0
          have := checkL_ok' h0
          rw [this] at h'; cases h'
        refine ab 1000 rfl trivial ?_
        exact S_inv ⟨.cons rfl (.cons rfl (.cons rfl (.cons (by show AV.bool true = _; rw [hb1, decide_eq_true (p := checkL cmd 60 ≠ 0 ∨ 60 < outs.length) (.inl h)]) (.nil _)))), by rw [haB]; rfl⟩
      · have h : checkL cmd 60 = 0 := by
          have h' : (cmd.any (fun s => decide (100000 < s.length)) || decide (60 < cmd.length)) = false := h
          exact checkL_no h'
        refine ab 1000 rfl ⟨rfl, trivial⟩ ?_
        refine S_inv ⟨.cons rfl (.cons rfl (.cons rfl (.cons ?_ (.nil _)))), by rw [haB]; rfl⟩
        show AV.bool (decide (((texts outs).length : Int) > 60)) = _
        rw [hb1]
        exact congrArg AV.bool (decide_eq_decide.2 ⟨fun h => .inr (by omega), fun h2 => by rcases h2 with h2 | h2; exact absurd h h2; omega⟩)
    rintro fr σ ⟨hw, rfl⟩
    refine S_opsW hw ?_
    refine S_pk 1 2 rfl rfl rfl rfl rfl rfl (.inl rfl) rfl free_bi (fun a ha => fail_ok 0 0 a ha [] b1 2 0) free_u (fun u1 a1 ha1 => ?_)
    rw [haB]
    refine ab 1000 rfl ⟨rfl, trivial⟩ ?_
    refine S_pure rfl rfl rfl (digestIs_ok inp (by omega)) (.cons (.refl .str) (.nil _)) ?_
    refine ab 1000 rfl trivial ?_
    refine S_pk 1 2 rfl rfl rfl rfl rfl rfl ha1 rfl free_bi (fun a ha => fail_ok 0 u1 a ha [] (!isDig inp) 1 (failE b1 2 0)) free_u (fun u2 a2 ha2 => ?_)
    obtain ⟨e2, he2⟩ : ∃ e2, e2 = failE (!isDig inp) 1 (failE b1 2 0) := ⟨_, rfl⟩
    rw [← he2]
    refine ab 1000 rfl ⟨rfl, trivial⟩ ?_
    refine S_while (α := Nat × Nat × AV) (fun (i, u, a) => [(1, .ptr 0 0 0), (4, .ptr 1 0 0), (27, .sl st false 1 (texts outs)), (28, .int .i64 ((texts outs).length : Nat)), (29, .int .i64 (i : Nat))])
      (fun (i, u, a) => [(0, some (.cells [.sl st false 1 (texts cmd), .str inp, .sl st false 1 (texts outs), .int .i64 fuel] ⟨false, some 26⟩)), pkB 1 2 0 u a [] (failE (!(outs.take i).all isPathB) 1 e2), byB u []])
      (fun (i, u, a) => i ≤ outs.length ∧ (a = .nilp ∨ a = .ptr 1 0 0)) (fun (i, u, a) => outs.length - i) (0, u2, a2)
      ⟨Nat.zero_le _, ha2⟩ (.cons rfl (.cons rfl (.cons rfl (.cons rfl (.cons rfl (.nil _)))))) rfl ?_
    rintro ⟨i, u, a⟩ ⟨hi, ha⟩
    have hi : i ≤ outs.length := hi
    refine ab 1000 rfl trivial ?_
    refine S_dec rfl (fun hil => ?_) (fun hil => ?_)
    · have hil : i < outs.length := by have : ((i : Nat) : Int) < ((texts outs).length : Nat) := hil; omega
      refine ab 1000 rfl trivial ?_
      refine S_index (.str outs[i]) rfl rfl rfl ⟨rfl, by omega, by rw [Int.toNat_natCast]; simp [texts, List.getElem?_eq_getElem hil], trivial⟩ ?_
      refine ab 1000 rfl trivial ?_
      refine S_pure rfl rfl rfl (isPath_ok outs[i] (ha4 _ (List.getElem_mem hil))) (.cons (.refl .str) (.nil _)) ?_
      refine ab 1000 rfl trivial ?_
      refine S_pk 1 2 rfl rfl rfl rfl rfl rfl ha (show [AV.bool (!isPathB outs[i]), AV.int .i64 1] = [AV.bool (!isPathB outs[i]), .int .i64 (1 : Nat)] from rfl) free_bi (fun a ha => fail_ok 0 u a ha [] (!isPathB outs[i]) 1 (failE (!(outs.take i).all isPathB) 1 e2)) free_u (fun u3 a3 ha3 => ?_)
      refine ab 1000 rfl trivial ?_
      refine S_round (i + 1, u3, a3) (by show outs.length - (i + 1) < outs.length - i; omega) ⟨hil, ha3⟩ (.cons rfl (.cons rfl (.cons rfl (.cons rfl (.cons (ai64 rfl (by omega)) (.nil _)))))) ?_
      have hf : failE (!isPathB outs[i]) 1 (failE (!(outs.take i).all isPathB) 1 e2) = failE (!(outs.take (i + 1)).all isPathB) 1 e2 := by
        rw [List.take_succ_eq_append_getElem hil, List.all_append]
        simp only [List.all_cons, List.all_nil, Bool.and_true]
        cases isPathB outs[i] <;> cases (outs.take i).all isPathB <;> by_cases h : e2 = 0 <;> simp [failE, h]
      rw [hf]
    · have hil : i = outs.length := by have : ¬ ((i : Nat) : Int) < ((texts outs).length : Nat) := hil; omega
      obtain ⟨e3, he3⟩ : ∃ e3, e3 = failE (!outs.all isPathB) 1 e2 := ⟨_, rfl⟩
      rw [hil, List.take_length]
      rw [← he3]
      refine ab 1000 rfl ⟨rfl, trivial⟩ ?_
      refine S_pure rfl rfl rfl (risesS_ok (st := st) (fl := false) outs (by omega)) (.cons (lend _ _) (.cons (.refl (.func (fun x h => by cases h) (fun x h => by cases h))) (.nil _))) ?_
      refine ab 1000 rfl trivial ?_
      refine S_pk 1 2 rfl rfl rfl rfl rfl rfl ha rfl free_bi (fun a ha => fail_ok 0 u a ha [] (!riseB outs) 6 e3) free_u (fun u4 a4 ha4' => ?_)
      refine ab 1000 rfl ⟨rfl, trivial⟩ ?_
      refine S_pure rfl rfl rfl (isNumber_ok fuel) (.cons (.refl .int) (.nil _)) ?_
      refine ab 1000 rfl trivial ?_
      refine S_pk 1 2 rfl rfl rfl rfl rfl rfl ha4' rfl free_bi (fun a ha => fail_ok 0 u4 a ha [] (!isNumB fuel) 3 (failE (!riseB outs) 6 e3)) free_u (fun u5 a5 ha5 => ?_)
      have hE : failE (!isNumB fuel) 3 (failE (!riseB outs) 6 e3) = actE ⟨cmd, inp, outs, fuel⟩ := by
        rw [he3, he2, hb1, actE]
        by_cases k1 : checkL cmd 60 ≠ 0 ∨ 60 < outs.length
        · simp [failE, k1]
        · cases isDig inp <;> cases outs.all isPathB <;> cases riseB outs <;> cases isNumB fuel <;> simp [failE, k1]
      rw [hE]
      refine ab 1000 rfl ⟨rfl, trivial⟩ ?_
      refine S_bne rfl (fun h => ?_) (fun h => ?_)
      · have he : actE ⟨cmd, inp, outs, fuel⟩ ≠ 0 := by have : ((actE ⟨cmd, inp, outs, fuel⟩ : Nat) : Int) ≠ 0 := h; omega
        rw [if_neg he]
        refine ab 1000 rfl trivial ?_
        refine S_doneE 1 2 rfl rfl rfl rfl rfl rfl ha5 he ?_
        refine ab 1000 rfl trivial ?_
        exact S_retc (ans_free _ _) rfl trivial rfl
      have hc : actE ⟨cmd, inp, outs, fuel⟩ = 0 := by have : ((actE ⟨cmd, inp, outs, fuel⟩ : Nat) : Int) = 0 := h; omega
      obtain ⟨h1, h2, h3, h4, h5, m, hfm, hm⟩ := actE_fit hc
      simp only at h1 h2 h3 h4 h5 hfm
      subst hfm
      rw [hc, if_pos rfl]
      have l1 := packTs_bd h1 h2
      have l2 : (packT inp).length ≤ 74 := by have := packN_len 9 inp.length; rw [packT, List.length_append]; omega
      have l3 := packTs_bd h4 (fun s hs => by have := h5 s hs; omega)
      have l4 := packN_len 9 m
      refine ab 1000 rfl ⟨rfl, trivial⟩ ?_
      refine S_pk 1 2 rfl rfl rfl rfl rfl rfl ha5 rfl (free_l cmd) (fun a ha => ptexts_ok (st := st) (fl := false) 0 u5 a ha [] cmd (by omega) h2 (by decide)) free_u (fun u6 a6 ha6 => ?_)
      refine ab 1000 rfl ⟨rfl, trivial⟩ ?_
      refine S_pk 1 2 rfl rfl rfl rfl rfl rfl ha6 rfl free_s (fun a ha => ptext_ok 0 u6 a ha ([] ++ packTs cmd) inp (by simp; omega)) free_u (fun u7 a7 ha7 => ?_)
      refine ab 1000 rfl ⟨rfl, trivial⟩ ?_
      refine S_pk 1 2 rfl rfl rfl rfl rfl rfl ha7 rfl (free_l outs) (fun a ha => ptexts_ok (st := st) (fl := false) 0 u7 a ha ([] ++ packTs cmd ++ packT inp) outs (by omega) (fun s hs => by have := h5 s hs; omega) (by simp; omega)) free_u (fun u8 a8 ha8 => ?_)
      refine ab 1000 rfl ⟨rfl, trivial⟩ ?_
      refine S_pk 1 2 rfl rfl rfl rfl rfl rfl ha8 rfl free_i (fun a ha => pnumber_ok 0 u8 a ha ([] ++ packTs cmd ++ packT inp ++ packTs outs) m (by omega) (by simp; omega)) free_u (fun u9 a9 ha9 => ?_)
      refine ab 1000 rfl trivial ?_
      refine S_done0 1 2 rfl rfl rfl rfl rfl rfl ha9 (by simp [packN_ne]) (by simp; omega) ?_
      refine ab 1000 rfl trivial ?_
      exact S_retc (ans_free _ _) rfl trivial rfl

end Go.Proofs.YtjpmngjoohoddaaDoor
