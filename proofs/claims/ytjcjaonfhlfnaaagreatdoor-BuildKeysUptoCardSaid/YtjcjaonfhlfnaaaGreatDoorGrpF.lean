/-
  Texts of our own, in one file.
-/
import Derived.Test.YtjcjaonfhlfnaaaGreatDoorGrpE
section
set_option linter.unusedVariables false
set_option linter.unusedSimpArgs false
set_option maxRecDepth 20000
namespace Go.Proofs.YtjcjaonfhlfnaaaGreatDoor
open Go Go.Ab
theorem packTs_bd {l : List (List UInt8)} (h1 : l.length ≤ 60) (h2 : ∀ s ∈ l, s.length ≤ 100000) : (packTs l).length ≤ 6010000 := by
  have hf : ∀ (l : List (List UInt8)), (∀ s ∈ l, s.length ≤ 100000) → (l.flatMap packT).length ≤ l.length * 100010 := by
    intro l
    induction l with
    | nil => intro _; simp
    | cons a r ih =>
      intro h
      have := ih (fun s hs => h s (List.mem_cons_of_mem _ hs))
      have h3 := h a (List.mem_cons_self ..)
      have h4 := packN_len 9 a.length
      rw [List.flatMap_cons, List.length_append, List.length_cons, packT, List.length_append]; omega
  have := hf l h2
  have := packN_len 9 l.length
  rw [packTs, List.length_append]; omega
theorem PackAction_ok {st : Bool} (a : ActV) (ha : ActFit a) : Calc cx 7 [actAV st a] (.str (packA a)) :=
  pure_intro (fun a w => Tryz.call7 a w) Tryz.func7 rfl Tryz.ntmps7 rfl .str fun B => by
    obtain ⟨cmd, inp, outs, fuel⟩ := a
    obtain ⟨h1, h2, h3, h4, h5, m, rfl, hm⟩ := ha
    simp only at h1 h2 h3 h4 h5
    have lend : ∀ (σ : Heap) (x : List (List UInt8)), Frz false σ (.sl st false 1 (texts x)) (.sl st false 1 (texts x)) := fun σ x => .refl (.sl (fun h => by cases h) (texts_any x))
    have l1 := packTs_bd h1 h2
    have l2 : (packT inp).length ≤ 74 := by have := packN_len 9 inp.length; rw [packT, List.length_append]; omega
    have l3 := packTs_bd h4 (fun s hs => by have := h5 s hs; omega)
    have l4 := packN_len 9 m
    refine ab 1000 rfl trivial ?_
    refine S_draw 15 [] [.str (packTs cmd), .str (packT inp), .str (packTs outs), .str (packN 9 m)] rfl rfl rfl rfl ⟨rfl, rfl, rfl, ⟨_, PackTexts_ok (st := st) (fl := false) cmd (by omega) h2, .cons (lend _ _) (.nil _)⟩, rfl, rfl, rfl, ⟨_, PackText_ok inp (by omega), .cons (.refl .str) (.nil _)⟩, rfl, ?_, rfl, rfl, rfl, ⟨_, PackTexts_ok (st := st) (fl := false) outs (by omega) (fun s hs => by have := h5 s hs; omega), .cons (lend _ _) (.nil _)⟩, rfl, ?_, rfl, rfl, rfl, ⟨_, PackNumber_ok m (by omega), .cons (.refl .int) (.nil _)⟩, rfl, ?_, trivial⟩ ?_
    · omega
    · rw [List.length_append]; omega
    · rw [List.length_append, List.length_append]; omega
    refine ab 1000 rfl trivial ?_
    exact S_retc .str rfl trivial rfl
theorem actOut_ok (s : List UInt8) : Calc cx 34 [.str s] (.str s) :=
  pure_intro (fun a w => Tryz.call34 a w) Tryz.func34 rfl Tryz.ntmps34 rfl .str fun B => by
    refine ab 1000 rfl trivial ?_
    exact S_retc .str rfl trivial rfl
theorem risesS_ok {st fl : Bool} (l : List (List UInt8)) (hl : l.length ≤ 9223372036854775807) : Calc cx 33 [.sl st fl 1 (texts l), .func (.func 34) [] []] (.bool (riseB l)) :=
  pure_intro (fun a w => Tryz.call33 a w) Tryz.func33 rfl Tryz.ntmps33 rfl .bool fun B => by
    refine ab 1000 rfl trivial ?_
    have htl : (texts l).length = l.length := by simp [texts]
    refine S_while (α := Nat) (fun i => [(0, .sl st fl 1 (texts l)), (1, .func (.func 34) [] []), (5, .int .i64 (i : Nat))]) (fun _ => []) (fun i => 1 ≤ i ∧ (i = 1 ∨ i ≤ l.length) ∧ (List.range i).all (riseP l) = true) (fun i => l.length + 1 - i) 1
      ⟨Nat.le_refl _, .inl rfl, rfl⟩ (.cons rfl (.cons rfl (.cons rfl (.nil _)))) rfl ?_
    rintro i ⟨h1, h2, hN⟩
    refine ab 1000 rfl trivial ?_
    refine S_dec rfl (fun hil => ?_) (fun hil => ?_)
    · have hil : i < l.length := by have : (i : Int) < ((texts l).length : Nat) := hil; omega
      have hil' : i - 1 < l.length := by omega
      have hw : IntKind.i64.wrap ((i : Int) - 1) = ((i - 1 : Nat) : Int) := w64 (by omega) (by omega)
      have g1 : l[i] = l.getD i [] := by simp [List.getD, hil]
      have g2 : l[i - 1] = l.getD (i - 1) [] := by simp [List.getD, hil']
      refine ab 1000 rfl trivial ?_
      refine S_draw 14 [] [.str l[i], .str l[i], .str l[i - 1], .str l[i - 1]] rfl rfl rfl rfl ⟨rfl, rfl, rfl, rfl, by omega, by rw [Int.toNat_natCast]; simp [texts, List.getElem?_eq_getElem hil], rfl, ⟨_, actOut_ok l[i], .cons (.refl .str) (.nil _)⟩, rfl, rfl, rfl, rfl, rfl, by rw [hw]; omega, by rw [hw, Int.toNat_natCast]; simp [texts, List.getElem?_eq_getElem hil'], rfl, ⟨_, actOut_ok l[i - 1], .cons (.refl .str) (.nil _)⟩, rfl, trivial⟩ ?_
      refine ab 1000 rfl trivial ?_
      refine S_cond rfl (fun h => ?_) (fun h => ?_)
      · have h : leS l[i] l[i - 1] = true := h
        rw [g1, g2] at h
        refine ab 1000 rfl trivial ?_
        refine S_retc .bool rfl trivial ?_
        rw [rise_no hil h1 h]; rfl
      · have h : leS l[i] l[i - 1] = false := h
        rw [g1, g2] at h
        refine ab 1000 rfl trivial ?_
        exact S_round (i + 1) (by show l.length + 1 - (i + 1) < l.length + 1 - i; omega) ⟨by omega, .inr (by omega), rise_step hN h⟩ (.cons rfl (.cons rfl (.cons (ai64 rfl (by omega)) (.nil _)))) rfl
    · have hil : ¬ i < l.length := by have : ¬ (i : Int) < ((texts l).length : Nat) := hil; omega
      refine ab 1000 rfl trivial ?_
      refine S_retc .bool rfl trivial ?_
      have : riseB l = true := by
        rcases Nat.eq_zero_or_pos l.length with h | h
        · rw [riseB, h]; rfl
        · rw [riseB, show l.length = i by omega]; exact hN
      rw [this]; rfl
theorem checkL_ok' {l : List (List UInt8)} {k : Nat} (h : checkL l k = 0) : (l.any (fun s => decide (100000 < s.length)) || decide (k < l.length)) = false := by
  unfold checkL at h
  split at h
  · cases h
  split at h
  · cases h
  rename_i h1 h2
  rw [Bool.not_eq_true] at h2
  rw [h2, decide_eq_false h1]; rfl
theorem checkL_no {l : List (List UInt8)} {k : Nat} (h : (l.any (fun s => decide (100000 < s.length)) || decide (k < l.length)) = false) : checkL l k = 0 := by
  rw [Bool.or_eq_false_iff] at h
  rw [checkL, if_neg (of_decide_eq_false h.2), h.1, if_neg (by decide)]
theorem Action_ok {st : Bool} (a : ActV) (ha : ActOk a) : Calc cx 10 [actAV st a] (.tup [.str (if actE a = 0 then packA a else []), .int .i64 (actE a : Nat)]) :=
  pure_intro (fun a w => Tryz.call10 a w) Tryz.func10 rfl Tryz.ntmps10 rfl (ans_free _ _) fun B => by
    obtain ⟨cmd, inp, outs, fuel⟩ := a
    have hok := ha
    obtain ⟨ha1, ha2, ha3, ha4⟩ := ha
    simp only at ha1 ha2 ha3 ha4
    have lend : ∀ (σ : Heap) (x : List (List UInt8)), Frz false σ (.sl st false 1 (texts x)) (.sl st false 1 (texts x)) := fun σ x => .refl (.sl (fun h => by cases h) (texts_any x))
    have free_l : ∀ (x : List (List UInt8)), ∀ y ∈ [AV.sl st false 1 (texts x)], Free false y := fun x y hy => by simp at hy; subst hy; exact .sl (fun h => by cases h) (texts_any x)
    have htl : (texts outs).length = outs.length := by simp [texts]
    obtain ⟨aB, haB⟩ : ∃ aB : Nat × Option Box, aB = (0, some (.cells [.sl st false 1 (texts cmd), .str inp, .sl st false 1 (texts outs), .int .i64 fuel] ⟨false, some 24⟩)) := ⟨_, rfl⟩
    refine ab 1000 rfl ⟨rfl, trivial⟩ ?_
    refine S_ghost 1 ⟨false, some 5⟩ (id := 1) (j := 1) rfl rfl rfl (show (1 : Nat) ≠ 2 by decide) ⟨.skip, _, .inr ⟨_, _, _, rfl⟩⟩ ?_
    refine S_pure rfl rfl rfl (long_ok (st := st) (fl := false) cmd 60 (by omega)) (.cons (lend _ _) (.cons (.refl .int) (.nil _))) ?_
    obtain ⟨b1, hb1⟩ : ∃ b1 : Bool, b1 = decide (checkL cmd 60 ≠ 0 ∨ 60 < outs.length) := ⟨_, rfl⟩
    refine S_split 6 (fun fr σ => Weak fr [(1, .ptr 0 0 0), (4, .ptr 1 0 0), (9, .ptr 1 0 0), (18, .bool b1)] ∧ σ = [aB, pkB 1 2 0 0 .nilp [] 0, byB 0 []]) ?_ ?_
    · refine ab 1000 rfl trivial ?_
      refine S_guard rfl rfl rfl rfl (fun h => ?_) (fun h => ?_)
      · have h : checkL cmd 60 ≠ 0 := by
          have h' : (cmd.any (fun s => decide (100000 < s.length)) || decide (60 < cmd.length)) = true := h
          intro h0
          have := checkL_ok' h0
          rw [this] at h'; cases h'
        refine ab 1000 rfl trivial ?_
        exact S_inv ⟨.cons rfl (.cons rfl (.cons rfl (.cons (by show AV.bool true = _; rw [hb1, decide_eq_true (p := checkL cmd 60 ≠ 0 ∨ 60 < outs.length) (.inl h)]) (.nil _)))), by rw [haB]; rfl⟩
      · have h : checkL cmd 60 = 0 := by
          have h' : (cmd.any (fun s => decide (100000 < s.length)) || decide (60 < cmd.length)) = false := h
          exact checkL_no h'
        refine ab 1000 rfl ⟨rfl, trivial⟩ ?_
        refine S_inv ⟨.cons rfl (.cons rfl (.cons rfl (.cons ?_ (.nil _)))), by rw [haB]; rfl⟩
        show AV.bool (decide (((texts outs).length : Int) > 60)) = _
        rw [hb1]
        exact congrArg AV.bool (decide_eq_decide.2 ⟨fun h => .inr (by omega), fun h2 => by rcases h2 with h2 | h2; exact absurd h h2; omega⟩)
    rintro fr σ ⟨hw, rfl⟩
    refine S_opsW hw ?_
    refine S_pk 1 2 rfl rfl rfl rfl rfl rfl (.inl rfl) rfl free_bi (fun a ha => fail_ok 0 0 a ha [] b1 2 0) free_u (fun u1 a1 ha1 => ?_)
    rw [haB]
    refine ab 1000 rfl ⟨rfl, trivial⟩ ?_
    refine S_pure rfl rfl rfl (digestIs_ok inp (by omega)) (.cons (.refl .str) (.nil _)) ?_
    refine ab 1000 rfl trivial ?_
    refine S_pk 1 2 rfl rfl rfl rfl rfl rfl ha1 rfl free_bi (fun a ha => fail_ok 0 u1 a ha [] (!isDig inp) 1 (failE b1 2 0)) free_u (fun u2 a2 ha2 => ?_)
    obtain ⟨e2, he2⟩ : ∃ e2, e2 = failE (!isDig inp) 1 (failE b1 2 0) := ⟨_, rfl⟩
    rw [← he2]
    refine ab 1000 rfl ⟨rfl, trivial⟩ ?_
    refine S_while (α := Nat × Nat × AV) (fun (i, u, a) => [(1, .ptr 0 0 0), (4, .ptr 1 0 0), (27, .sl st false 1 (texts outs)), (28, .int .i64 ((texts outs).length : Nat)), (29, .int .i64 (i : Nat))])
      (fun (i, u, a) => [(0, some (.cells [.sl st false 1 (texts cmd), .str inp, .sl st false 1 (texts outs), .int .i64 fuel] ⟨false, some 24⟩)), pkB 1 2 0 u a [] (failE (!(outs.take i).all isPathB) 1 e2), byB u []])
      (fun (i, u, a) => i ≤ outs.length ∧ (a = .nilp ∨ a = .ptr 1 0 0)) (fun (i, u, a) => outs.length - i) (0, u2, a2)
      ⟨Nat.zero_le _, ha2⟩ (.cons rfl (.cons rfl (.cons rfl (.cons rfl (.cons rfl (.nil _)))))) rfl ?_
    rintro ⟨i, u, a⟩ ⟨hi, ha⟩
    have hi : i ≤ outs.length := hi
    refine ab 1000 rfl trivial ?_
    refine S_dec rfl (fun hil => ?_) (fun hil => ?_)
    · have hil : i < outs.length := by have : (i : Int) < ((texts outs).length : Nat) := hil; omega
      refine ab 1000 rfl trivial ?_
      refine S_index (.str outs[i]) rfl rfl rfl ⟨rfl, by omega, by rw [Int.toNat_natCast]; simp [texts, List.getElem?_eq_getElem hil], trivial⟩ ?_
      refine ab 1000 rfl trivial ?_
      refine S_pure rfl rfl rfl (isPath_ok outs[i] (ha4 _ (List.getElem_mem hil))) (.cons (.refl .str) (.nil _)) ?_
      refine ab 1000 rfl trivial ?_
      refine S_pk 1 2 rfl rfl rfl rfl rfl rfl ha (show [AV.bool (!isPathB outs[i]), AV.int .i64 1] = [AV.bool (!isPathB outs[i]), .int .i64 (1 : Nat)] from rfl) free_bi (fun a ha => fail_ok 0 u a ha [] (!isPathB outs[i]) 1 (failE (!(outs.take i).all isPathB) 1 e2)) free_u (fun u3 a3 ha3 => ?_)
      refine ab 1000 rfl trivial ?_
      refine S_round (i + 1, u3, a3) (by show outs.length - (i + 1) < outs.length - i; omega) ⟨hil, ha3⟩ (.cons rfl (.cons rfl (.cons rfl (.cons rfl (.cons (ai64 rfl (by omega)) (.nil _)))))) ?_
      have hf : failE (!isPathB outs[i]) 1 (failE (!(outs.take i).all isPathB) 1 e2) = failE (!(outs.take (i + 1)).all isPathB) 1 e2 := by
        rw [List.take_succ_eq_append_getElem hil, List.all_append]
        simp only [List.all_cons, List.all_nil, Bool.and_true]
        cases isPathB outs[i] <;> cases (outs.take i).all isPathB <;> by_cases h : e2 = 0 <;> simp [failE, h]
      rw [hf]
    · have hil : i = outs.length := by have : ¬ (i : Int) < ((texts outs).length : Nat) := hil; omega
      obtain ⟨e3, he3⟩ : ∃ e3, e3 = failE (!outs.all isPathB) 1 e2 := ⟨_, rfl⟩
      rw [hil, List.take_length]
      rw [← he3]
      refine ab 1000 rfl ⟨rfl, trivial⟩ ?_
      refine S_pure rfl rfl rfl (risesS_ok (st := st) (fl := false) outs (by omega)) (.cons (lend _ _) (.cons (.refl (.func (fun x h => by cases h) (fun x h => by cases h))) (.nil _))) ?_
      refine ab 1000 rfl trivial ?_
      refine S_pk 1 2 rfl rfl rfl rfl rfl rfl ha rfl free_bi (fun a ha => fail_ok 0 u a ha [] (!riseB outs) 6 e3) free_u (fun u4 a4 ha4' => ?_)
      refine ab 1000 rfl ⟨rfl, trivial⟩ ?_
      refine S_pure rfl rfl rfl (isNumber_ok fuel) (.cons (.refl .int) (.nil _)) ?_
      refine ab 1000 rfl trivial ?_
      refine S_pk 1 2 rfl rfl rfl rfl rfl rfl ha4' rfl free_bi (fun a ha => fail_ok 0 u4 a ha [] (!isNumB fuel) 3 (failE (!riseB outs) 6 e3)) free_u (fun u5 a5 ha5 => ?_)
      have hE : failE (!isNumB fuel) 3 (failE (!riseB outs) 6 e3) = actE ⟨cmd, inp, outs, fuel⟩ := by
        rw [he3, he2, hb1, actE]
        by_cases k1 : checkL cmd 60 ≠ 0 ∨ 60 < outs.length
        · simp [failE, k1]
        · cases isDig inp <;> cases outs.all isPathB <;> cases riseB outs <;> cases isNumB fuel <;> simp [failE, k1]
      rw [hE]
      refine ab 1000 rfl ⟨rfl, trivial⟩ ?_
      refine S_bne rfl (fun h => ?_) (fun h => ?_)
      · have he : actE ⟨cmd, inp, outs, fuel⟩ ≠ 0 := by have : ((actE ⟨cmd, inp, outs, fuel⟩ : Nat) : Int) ≠ 0 := h; omega
        rw [if_neg he]
        refine ab 1000 rfl trivial ?_
        refine S_doneE 1 2 rfl rfl rfl rfl rfl rfl ha5 he ?_
        refine ab 1000 rfl trivial ?_
        exact S_retc (ans_free _ _) rfl trivial rfl
      have hc : actE ⟨cmd, inp, outs, fuel⟩ = 0 := by have : ((actE ⟨cmd, inp, outs, fuel⟩ : Nat) : Int) = 0 := h; omega
      obtain ⟨h1, h2, h3, h4, h5, m, hfm, hm⟩ := actE_fit hc
      simp only at h1 h2 h3 h4 h5 hfm
      subst hfm
      rw [hc, if_pos rfl]
      have l1 := packTs_bd h1 h2
      have l2 : (packT inp).length ≤ 74 := by have := packN_len 9 inp.length; rw [packT, List.length_append]; omega
      have l3 := packTs_bd h4 (fun s hs => by have := h5 s hs; omega)
      have l4 := packN_len 9 m
      refine ab 1000 rfl ⟨rfl, trivial⟩ ?_
      refine S_pk 1 2 rfl rfl rfl rfl rfl rfl ha5 rfl (free_l cmd) (fun a ha => ptexts_ok (st := st) (fl := false) 0 u5 a ha [] cmd (by omega) h2 (by decide)) free_u (fun u6 a6 ha6 => ?_)
      refine ab 1000 rfl ⟨rfl, trivial⟩ ?_
      refine S_pk 1 2 rfl rfl rfl rfl rfl rfl ha6 rfl free_s (fun a ha => ptext_ok 0 u6 a ha ([] ++ packTs cmd) inp (by simp; omega)) free_u (fun u7 a7 ha7 => ?_)
      refine ab 1000 rfl ⟨rfl, trivial⟩ ?_
      refine S_pk 1 2 rfl rfl rfl rfl rfl rfl ha7 rfl (free_l outs) (fun a ha => ptexts_ok (st := st) (fl := false) 0 u7 a ha ([] ++ packTs cmd ++ packT inp) outs (by omega) (fun s hs => by have := h5 s hs; omega) (by simp; omega)) free_u (fun u8 a8 ha8 => ?_)
      refine ab 1000 rfl ⟨rfl, trivial⟩ ?_
      refine S_pk 1 2 rfl rfl rfl rfl rfl rfl ha8 rfl free_i (fun a ha => pnumber_ok 0 u8 a ha ([] ++ packTs cmd ++ packT inp ++ packTs outs) m (by omega) (by simp; omega)) free_u (fun u9 a9 ha9 => ?_)
      refine ab 1000 rfl trivial ?_
      refine S_done0 1 2 rfl rfl rfl rfl rfl rfl ha9 (by simp [packN_ne]) (by simp; omega) ?_
      refine ab 1000 rfl trivial ?_
      exact S_retc (ans_free _ _) rfl trivial rfl
end Go.Proofs.YtjcjaonfhlfnaaaGreatDoor
end
section
set_option linter.unusedVariables false
set_option linter.unusedSimpArgs false
set_option maxRecDepth 20000
namespace Go.Proofs.YtjcjaonfhlfnaaaGreatDoor
open Go Go.Ab
theorem xor1_ok (x y : Int) : Calc cx 45 [.int .i64 x, .int .i64 y] (.int .i64 ((IntKind.i64.wrap (x + y)).tmod 2)) :=
  pure_intro (fun a w => Tryz.call45 a w) Tryz.func45 rfl Tryz.ntmps45 rfl .int fun B => by
    refine ab 1000 rfl ⟨by decide, trivial⟩ ?_
    refine S_ret ⟨_, _, rfl, trivial, _, rfl, .refl .int⟩
def bitsN (G : Nat → Nat → Nat) : Nat → Nat → Nat → Nat
  | 0, _, _ => 0
  | k + 1, a, b => G (a % 2) (b % 2) + 2 * bitsN G k (a / 2) (b / 2)
theorem bits_ok (G : Nat → Nat → Nat) (f : FuncId) (hG : ∀ x y, x < 2 → y < 2 → G x y < 2 ∧ Calc cx f [.int .i64 x, .int .i64 y] (.int .i64 (G x y))) (a b : Nat) (ha : a < 4294967296) (hb : b < 4294967296) :
    Calc cx 44 [.int .i64 a, .int .i64 b, .func (.func f) [] []] (.int .i64 (bitsN G 32 a b)) :=
  pure_intro (fun a w => Tryz.call44 a w) Tryz.func44 rfl Tryz.ntmps44 rfl .int fun B => by
    refine ab 1000 rfl trivial ?_
    refine S_while (α := Nat × Nat × Nat × Nat) (fun (i, a, b, n) => [(0, .int .i64 a), (1, .int .i64 b), (2, .func (.func f) [] []), (7, .int .i64 n), (8, .int .i64 ((2 ^ i : Nat) : Int)), (9, .int .i64 i)]) (fun _ => [])
      (fun (i, a', b', n) => i ≤ 32 ∧ a' < 4294967296 ∧ b' < 4294967296 ∧ n < 2 ^ i ∧ n + 2 ^ i * bitsN G (32 - i) a' b' = bitsN G 32 a b) (fun (i, _) => 32 - i) (0, a, b, 0)
      ⟨by decide, ha, hb, by decide, by simp⟩ (.cons rfl (.cons rfl (.cons rfl (.cons rfl (.cons rfl (.cons rfl (.nil _))))))) rfl ?_
    rintro ⟨i, a', b', n⟩ ⟨hi, ha', hb', hn, hN⟩
    have hG' := hG (a' % 2) (b' % 2) (Nat.mod_lt _ (by decide)) (Nat.mod_lt _ (by decide))
    have hp : 2 ^ i ≤ 2 ^ 32 := Nat.pow_le_pow_right (by decide) hi
    refine ab 1000 rfl trivial ?_
    refine S_dec rfl (fun h => ?_) (fun h => ?_)
    · have hi32 : i < 32 := by omega
      refine ab 1000 rfl ⟨by decide, by decide, trivial⟩ ?_
      refine S_pure rfl rfl rfl hG'.2 (.cons (.refl .int) (.cons (.refl .int) (.nil _))) ?_
      refine ab 1000 rfl ⟨by decide, by decide, trivial⟩ ?_
      have hg : G (a' % 2) (b' % 2) < 2 := hG'.1
      have hm : 2 ^ i * G (a' % 2) (b' % 2) ≤ 2 ^ i := by
        rcases Nat.lt_or_ge (G (a' % 2) (b' % 2)) 1 with h | h
        · rw [show G (a' % 2) (b' % 2) = 0 by omega]; simp
        · rw [show G (a' % 2) (b' % 2) = 1 by omega]; simp
      refine S_round (i + 1, a' / 2, b' / 2, n + 2 ^ i * G (a' % 2) (b' % 2)) ?_ ⟨by omega, by omega, by omega, ?_, ?_⟩ (.cons ?_ (.cons ?_ (.cons rfl (.cons ?_ (.cons ?_ (.cons ?_ (.nil _))))))) rfl
      · show 32 - (i + 1) < 32 - i; omega
      · show n + _ < 2 ^ (i + 1); rw [Nat.pow_succ]; omega
      · show n + 2 ^ i * G (a' % 2) (b' % 2) + 2 ^ (i + 1) * bitsN G (32 - (i + 1)) (a' / 2) (b' / 2) = _
        rw [← hN, show 32 - i = (32 - (i + 1)) + 1 by omega, bitsN, Nat.mul_add, Nat.pow_succ, Nat.mul_assoc (2 ^ i) 2]; omega
      · exact ai64 rfl (by omega)
      · exact ai64 rfl (by omega)
      · exact ai64 (congrArg (fun z : Int => (n : Int) + z) (w64 (k := 2 ^ i * G (a' % 2) (b' % 2)) rfl (by omega))) (by omega)
      · exact ai64 (by rw [Nat.pow_succ]; omega) (by rw [Nat.pow_succ]; omega)
      · exact ai64 rfl (by omega)
    · have hi32 : i = 32 := by omega
      subst hi32
      refine ab 1000 rfl trivial ?_
      refine S_ret ⟨_, _, rfl, trivial, _, rfl, ?_⟩
      rw [show bitsN G 32 a b = n by rw [← hN]; simp [bitsN]]
      exact .refl .int
theorem xor1_nat (x y : Nat) (hx : x < 2) (hy : y < 2) : (x + y) % 2 < 2 ∧ Calc cx 45 [.int .i64 x, .int .i64 y] (.int .i64 ((x + y) % 2 : Nat)) := by
  refine ⟨Nat.mod_lt _ (by decide), ?_⟩
  have h := xor1_ok x y
  rw [show (x : Int) + (y : Int) = ((x + y : Nat) : Int) from rfl, w64 (k := x + y) rfl (by omega)] at h
  exact h
def xor2 (a b : Nat) : Nat := bitsN (fun x y => (x + y) % 2) 32 a b
theorem bitsN_lt (G : Nat → Nat → Nat) (hG : ∀ x y, x < 2 → y < 2 → G x y < 2) : ∀ k a b, bitsN G k a b < 2 ^ k
  | 0, _, _ => by simp [bitsN]
  | k + 1, a, b => by
    have h := bitsN_lt G hG k (a / 2) (b / 2)
    have h1 := hG (a % 2) (b % 2) (Nat.mod_lt _ (by decide)) (Nat.mod_lt _ (by decide))
    rw [bitsN, Nat.pow_succ]; omega
theorem xor2_lt (a b : Nat) : xor2 a b < 4294967296 := bitsN_lt _ (fun x y _ _ => Nat.mod_lt _ (by decide)) 32 a b
theorem xor2_ok (a b : Nat) (ha : a < 4294967296) (hb : b < 4294967296) : Calc cx 44 [.int .i64 a, .int .i64 b, .func (.func 45) [] []] (.int .i64 (xor2 a b)) := by
  unfold xor2
  exact bits_ok _ _ xor1_nat a b ha hb
def xorL (l : List Nat) : Nat := l.foldl xor2 0
def ints (l : List Nat) : List AV := l.map fun (x : Nat) => .int .i64 x
theorem xor_ok {st fl : Bool} (l : List Nat) (hl : ∀ x ∈ l, x < 4294967296) (hn : l.length ≤ 4611686018427387904) : Calc cx 20 [.sl st fl 1 (ints l)] (.int .i64 (xorL l)) :=
  pure_intro (fun a w => Tryz.call20 a w) Tryz.func20 rfl Tryz.ntmps20 rfl .int fun B => by
    refine ab 1000 rfl trivial ?_
    refine S_while (α := Nat × Nat) (fun (i, n) => [(0, .sl st fl 1 (ints l)), (3, .int .i64 n), (4, .int .i64 i)]) (fun _ => []) (fun (i, n) => i ≤ l.length ∧ n < 4294967296 ∧ (l.drop i).foldl xor2 n = xorL l) (fun (i, _) => l.length - i) (0, 0)
      ⟨by simp, by decide, by simp [xorL]⟩ (.cons rfl (.cons rfl (.cons rfl (.nil _)))) rfl ?_
    rintro ⟨i, n⟩ ⟨hi, hn', hN⟩
    refine ab 1000 rfl trivial ?_
    refine S_dec rfl (fun h => ?_) (fun h => ?_)
    · have hil : i < l.length := by simp [ints] at h; omega
      refine ab 1000 rfl trivial ?_
      refine S_index (.int .i64 l[i]) rfl rfl rfl ⟨rfl, by omega, by simp [ints, List.getElem?_eq_getElem hil], trivial⟩ ?_
      refine ab 1000 rfl trivial ?_
      have hx := hl _ (List.getElem_mem hil)
      refine S_pure rfl rfl rfl (xor2_ok n l[i] hn' hx) (.cons (.refl .int) (.cons (.refl .int) (.cons (.refl (.func (by simp) (by simp))) (.nil _)))) ?_
      refine ab 1000 rfl trivial ?_
      refine S_round (i + 1, xor2 n l[i]) (by show l.length - (i + 1) < l.length - i; omega) ⟨hil, xor2_lt _ _, ?_⟩ (.cons rfl (.cons rfl (.cons (ai64 rfl (by omega)) (.nil _)))) rfl
      show (l.drop (i + 1)).foldl xor2 (xor2 n l[i]) = _
      rw [← hN, List.drop_eq_getElem_cons hil, List.foldl_cons]
    · have hil : i = l.length := by simp [ints] at h; omega
      subst hil
      refine ab 1000 rfl trivial ?_
      refine S_ret ⟨_, _, rfl, trivial, _, rfl, ?_⟩
      rw [← hN]; simp
      exact .refl .int
end Go.Proofs.YtjcjaonfhlfnaaaGreatDoor
end
section
set_option linter.unusedVariables false
set_option linter.unusedSimpArgs false
set_option maxRecDepth 20000
namespace Go.Proofs.YtjcjaonfhlfnaaaGreatDoor
open Go Go.Ab
theorem xor_half (a b : Nat) : a ^^^ b = (a % 2 + b % 2) % 2 + 2 * ((a / 2) ^^^ (b / 2)) := by
  have h1 : (a ^^^ b) / 2 = (a / 2) ^^^ (b / 2) := by
    have := Nat.shiftRight_xor_distrib (a := a) (b := b) (i := 1)
    simpa [Nat.shiftRight_eq_div_pow] using this
  have h2 : (a ^^^ b) % 2 = (a % 2 + b % 2) % 2 := by
    clear h1
    have h := @Nat.xor_mod_two_eq_one a b
    have hz := Nat.mod_two_eq_zero_or_one (a ^^^ b)
    generalize (a ^^^ b) % 2 = z at *
    rcases Nat.mod_two_eq_zero_or_one a with ha | ha <;> rcases Nat.mod_two_eq_zero_or_one b with hb | hb <;> rw [ha, hb] at h ⊢ <;> rcases hz with rfl | rfl <;> simp at h ⊢
  rw [← h1, ← h2]; omega
theorem bitsN_xor : ∀ k a b, bitsN (fun x y => (x + y) % 2) k a b = (a ^^^ b) % 2 ^ k
  | 0, a, b => by simp [bitsN, Nat.mod_one]
  | k + 1, a, b => by
    rw [bitsN, bitsN_xor k, xor_half a b, Nat.pow_succ, Nat.mul_comm (2 ^ k) 2, Nat.mod_mul]
    have h : (a % 2 + b % 2) % 2 < 2 := Nat.mod_lt _ (by decide)
    generalize (a % 2 + b % 2) % 2 = x at *
    generalize (a / 2) ^^^ (b / 2) = y at *
    have e1 : (x + 2 * y) % 2 = x := by omega
    have e2 : (x + 2 * y) / 2 = y := by omega
    rw [e1, e2]
theorem xor2_eq {a b : Nat} (ha : a < 4294967296) (hb : b < 4294967296) : xor2 a b = a ^^^ b := by
  unfold xor2
  rw [bitsN_xor]
  exact Nat.mod_eq_of_lt (Nat.xor_lt_two_pow (n := 32) ha hb)
theorem xorL_two {a b : Nat} (ha : a < 4294967296) (hb : b < 4294967296) : xorL [a, b] = a ^^^ b := by
  simp only [xorL, List.foldl_cons, List.foldl_nil]
  rw [xor2_eq (by decide) ha, Nat.zero_xor, xor2_eq ha hb]
theorem xorL_three {a b c : Nat} (ha : a < 4294967296) (hb : b < 4294967296) (hc : c < 4294967296) : xorL [a, b, c] = a ^^^ b ^^^ c := by
  simp only [xorL, List.foldl_cons, List.foldl_nil]
  rw [xor2_eq (by decide) ha, Nat.zero_xor, xor2_eq ha hb, xor2_eq (Nat.xor_lt_two_pow (n := 32) ha hb) hc]
end Go.Proofs.YtjcjaonfhlfnaaaGreatDoor
end
section
set_option linter.unusedVariables false
set_option linter.unusedSimpArgs false
set_option maxRecDepth 20000
namespace Go.Proofs.YtjcjaonfhlfnaaaGreatDoor
open Go Go.Ab
theorem Pow2_ok (m : Nat) (hm : m ≤ 62) : Calc cx 17 [.int .i64 m] (.int .i64 ((2 ^ m : Nat) : Int)) :=
  pure_intro (fun a w => Tryz.call17 a w) Tryz.func17 rfl Tryz.ntmps17 rfl .int fun B => by
    refine ab 1000 rfl trivial ?_
    refine S_while (α := Nat) (fun i => [(0, .int .i64 ((m - i : Nat) : Int)), (3, .int .i64 ((2 ^ i : Nat) : Int))]) (fun _ => []) (fun i => i ≤ m) (fun i => m - i) 0 (Nat.zero_le _) (.cons rfl (.cons rfl (.nil _))) rfl ?_
    intro i hi
    have hp : 2 ^ i ≤ 2 ^ 62 := Nat.pow_le_pow_right (by decide) (by omega)
    refine ab 1000 rfl trivial ?_
    refine S_dec rfl (fun h => ?_) (fun h => ?_)
    · have hil : i < m := by omega
      have hp2 : 2 ^ (i + 1) = 2 * 2 ^ i := by rw [Nat.pow_succ]; omega
      have hp3 : 2 ^ (i + 1) ≤ 2 ^ 62 := Nat.pow_le_pow_right (by decide) (by omega)
      refine ab 1000 rfl trivial ?_
      refine S_round (i + 1) (by show m - (i + 1) < m - i; omega) hil (.cons ?_ (.cons ?_ (.nil _))) rfl
      · exact ai64 (k := m - (i + 1)) (by omega) (by omega)
      · exact ai64 (k := 2 ^ (i + 1)) (by rw [hp2]; rfl) (by omega)
    · have him : i = m := by omega
      subst him
      refine ab 1000 rfl trivial ?_
      exact S_retc .int rfl trivial rfl
end Go.Proofs.YtjcjaonfhlfnaaaGreatDoor
end
section
set_option linter.unusedVariables false
set_option linter.unusedSimpArgs false
set_option maxRecDepth 20000
namespace Go.Proofs.YtjcjaonfhlfnaaaGreatDoor
open Go Go.Ab
theorem and_half (a b : Nat) : a &&& b = (a % 2) * (b % 2) + 2 * ((a / 2) &&& (b / 2)) := by
  have h1 : (a &&& b) / 2 = (a / 2) &&& (b / 2) := by
    have := Nat.shiftRight_and_distrib (a := a) (b := b) (i := 1)
    simpa [Nat.shiftRight_eq_div_pow] using this
  have h2 : (a &&& b) % 2 = (a % 2) * (b % 2) := by
    have h := @Nat.and_mod_two_eq_one a b
    have hz := Nat.mod_two_eq_zero_or_one (a &&& b)
    clear h1
    generalize (a &&& b) % 2 = z at *
    rcases Nat.mod_two_eq_zero_or_one a with ha | ha <;> rcases Nat.mod_two_eq_zero_or_one b with hb | hb <;> rw [ha, hb] at h ⊢ <;> rcases hz with rfl | rfl <;> simp at h ⊢
  rw [← h1, ← h2]; omega
theorem bitsN_and : ∀ k a b, bitsN (fun x y => x * y) k a b = (a &&& b) % 2 ^ k
  | 0, a, b => by simp [bitsN, Nat.mod_one]
  | k + 1, a, b => by
    rw [bitsN, bitsN_and k, and_half a b, Nat.pow_succ, Nat.mul_comm (2 ^ k) 2, Nat.mod_mul]
    have h : (a % 2) * (b % 2) < 2 := by
      rcases Nat.mod_two_eq_zero_or_one a with ha | ha <;> rcases Nat.mod_two_eq_zero_or_one b with hb | hb <;> rw [ha, hb] <;> decide
    generalize (a % 2) * (b % 2) = x at *
    generalize (a / 2) &&& (b / 2) = y at *
    have e1 : (x + 2 * y) % 2 = x := by omega
    have e2 : (x + 2 * y) / 2 = y := by omega
    rw [e1, e2]
theorem and1_nat (x y : Nat) (hx : x < 2) (hy : y < 2) : x * y < 2 ∧ Calc cx 46 [.int .i64 x, .int .i64 y] (.int .i64 (x * y : Nat)) := by
  have h2 : x * y < 2 := by
    have : x = 0 ∨ x = 1 := by omega
    rcases this with rfl | rfl <;> simp <;> omega
  refine ⟨h2, pure_intro (fun a w => Tryz.call46 a w) Tryz.func46 rfl Tryz.ntmps46 rfl .int fun B => ?_⟩
  refine ab 1000 rfl trivial ?_
  refine S_retc .int rfl trivial ?_
  exact ai64 (by simp) (by omega)
theorem And_ok (a b : Nat) (ha : a < M32) (hb : b < M32) : Calc cx 23 [.int .i64 a, .int .i64 b] (.int .i64 (a &&& b : Nat)) :=
  pure_intro (fun a w => Tryz.call23 a w) Tryz.func23 rfl Tryz.ntmps23 rfl .int fun B => by
    have hc := bits_ok (fun x y => x * y) 46 and1_nat a b ha hb
    rw [bitsN_and, Nat.mod_eq_of_lt (show a &&& b < 2 ^ 32 from Nat.lt_of_le_of_lt Nat.and_le_left ha)] at hc
    refine ab 1000 rfl trivial ?_
    refine S_pure rfl rfl rfl hc (.cons (.refl .int) (.cons (.refl .int) (.cons (.refl (.func (by simp) (by simp))) (.nil _)))) ?_
    refine ab 1000 rfl trivial ?_
    exact S_retc .int rfl trivial rfl
theorem Wrap_ok (n : Nat) (hn : n ≤ 4611686018427387904) : Calc cx 22 [.int .i64 n] (.int .i64 (n % M32 : Nat)) :=
  pure_intro (fun a w => Tryz.call22 a w) Tryz.func22 rfl Tryz.ntmps22 rfl .int fun B => by
    have e : (n : Int).tmod 4294967296 = ((n % M32 : Nat) : Int) := rfl
    refine ab 1000 rfl ⟨by decide, trivial⟩ ?_
    refine S_dec rfl (fun h => ?_) (fun h => ?_)
    · exfalso
      have h : (n : Int).tmod 4294967296 < 0 := h
      rw [e] at h; omega
    · refine ab 1000 rfl trivial ?_
      exact S_retc .int rfl trivial rfl
theorem rotr_sum {x n : Nat} (h1 : n ≤ 32) : x / 2 ^ n + x % 2 ^ n * 2 ^ (32 - n) = rotr x n ∨ M32 ≤ x := by
  rcases Nat.lt_or_ge x M32 with hx | hx
  · left
    have e : M32 = 2 ^ n * 2 ^ (32 - n) := by rw [← Nat.pow_add, show n + (32 - n) = 32 by omega]; rfl
    have e2 : x * 2 ^ (32 - n) % M32 = x % 2 ^ n * 2 ^ (32 - n) := by rw [e, Nat.mul_mod_mul_right]
    have h3 : x / 2 ^ n < 2 ^ (32 - n) := by
      rw [Nat.div_lt_iff_lt_mul (Nat.two_pow_pos n), Nat.mul_comm, ← e]; exact hx
    rw [rotr, e2, Nat.mul_comm (x % 2 ^ n), ← Nat.two_pow_add_eq_or_of_lt h3, Nat.add_comm]
  · exact .inr hx
theorem Right_ok (x n : Nat) (hx : x < M32) (h1 : 1 ≤ n) (h2 : n ≤ 31) : Calc cx 21 [.int .i64 x, .int .i64 n] (.int .i64 (rotr x n : Nat)) :=
  pure_intro (fun a w => Tryz.call21 a w) Tryz.func21 rfl Tryz.ntmps21 rfl .int fun B => by
    have hs := (rotr_sum (x := x) (n := n) (by omega)).resolve_right (by omega)
    have hlt := rotr_lt n hx
    have hw : IntKind.i64.wrap (32 - (n : Int)) = ((32 - n : Nat) : Int) := w64 (by omega) (by omega)
    have p1 : 0 < 2 ^ n := Nat.two_pow_pos n
    have p2 : 0 < 2 ^ (32 - n) := Nat.two_pow_pos _
    have hx' : x < 4294967296 := hx
    have q1 : x / 2 ^ n ≤ x := Nat.div_le_self _ _
    have hlt' : rotr x n < 4294967296 := hlt
    have d1 : IntKind.i64.wrap ((x : Int).tdiv ((2 ^ n : Nat) : Int)) = ((x / 2 ^ n : Nat) : Int) := w64 rfl (by omega)
    have d2 : (x : Int).tmod ((2 ^ n : Nat) : Int) = ((x % 2 ^ n : Nat) : Int) := rfl
    have d0 : x % 2 ^ n * 2 ^ (32 - n) < 4294967296 := Nat.lt_of_le_of_lt (Nat.le_add_left _ _) (hs ▸ hlt')
    have d3 : IntKind.i64.wrap (((x % 2 ^ n : Nat) : Int) * ((2 ^ (32 - n) : Nat) : Int)) = ((x % 2 ^ n * 2 ^ (32 - n) : Nat) : Int) := w64 (by simp) (by generalize x % 2 ^ n * 2 ^ (32 - n) = z at *; omega)
    refine ab 1000 rfl trivial ?_
    refine S_draw 13 [] [.int .i64 ((2 ^ n : Nat) : Int), .int .i64 ((2 ^ n : Nat) : Int), .int .i64 ((2 ^ (32 - n) : Nat) : Int)] rfl rfl rfl rfl ⟨rfl, rfl, ⟨_, Pow2_ok n (by omega), .cons (.refl .int) (.nil _)⟩, rfl, by omega, rfl, rfl, ⟨_, Pow2_ok n (by omega), .cons (.refl .int) (.nil _)⟩, rfl, by omega, rfl, rfl, ⟨_, Pow2_ok (32 - n) (by omega), .cons (by rw [← hw]; exact .refl .int) (.nil _)⟩, rfl, rfl, trivial⟩ ?_
    refine ab 1000 rfl trivial ?_
    refine S_retc .int rfl trivial ?_
    show AV.int .i64 (IntKind.i64.wrap (IntKind.i64.wrap ((x : Int).tdiv ((2 ^ n : Nat) : Int)) + IntKind.i64.wrap ((x : Int).tmod ((2 ^ n : Nat) : Int) * ((2 ^ (32 - n) : Nat) : Int)))) = _
    rw [d2, d1, d3]
    exact ai64 (by rw [← hs]; simp) (by omega)
theorem Constants_ok : Calc cx 18 [] (.sl true true 1 (ints kTab)) :=
  pure_intro (fun a w => Tryz.call18 a w) Tryz.func18 rfl Tryz.ntmps18 rfl (.sl (fun _ => rfl) (by intro x hx; obtain ⟨y, _, rfl⟩ := List.mem_map.1 hx; exact .int)) fun B => by
    refine ab 1000 rfl trivial ?_
    exact S_retc (.sl (fun _ => rfl) (by intro x hx; obtain ⟨y, _, rfl⟩ := List.mem_map.1 hx; exact .int)) rfl trivial rfl
def iB (v : Nat) (l : List Nat) : Nat × Option Box := (v, some (.cells (ints l) ⟨false, none⟩))
theorem Firsts_ok : CallOk cx 19 [] [] (fun o σ' => o = .ret (.ms 0 0 0 8 1 true) ∧ σ' = [iB 0 hTab]) :=
  callOk_intro (fun a w => Tryz.call19 a w) Tryz.func19 rfl Tryz.ntmps19 rfl fun B => by
    refine go (M := [1]) 1000 rfl trivial ?_
    exact S_ret ⟨_, _, rfl, trivial, rfl, rfl⟩
end Go.Proofs.YtjcjaonfhlfnaaaGreatDoor
end
section
set_option linter.unusedVariables false
set_option linter.unusedSimpArgs false
set_option maxRecDepth 20000
namespace Go.Proofs.YtjcjaonfhlfnaaaGreatDoor
open Go Go.Ab
theorem ints_len (l : List Nat) : (ints l).length = l.length := by simp [ints]
theorem ints_one (l : List Nat) : ∀ x ∈ ints l, x.one = true := by
  intro x hx; obtain ⟨y, _, rfl⟩ := List.mem_map.1 hx; rfl
theorem ints_any {st : Bool} (l : List Nat) : ∀ x ∈ ints l, Free st x := by
  intro x hx; obtain ⟨y, _, rfl⟩ := List.mem_map.1 hx; exact .int
theorem ints_get {l : List Nat} {i : Nat} (h : i < l.length) : (ints l)[i]? = some (.int .i64 (l.getD i 0 : Nat)) := by
  simp [ints, List.getD, h]
theorem ints_ld {l : List Nat} {i : Nat} (h : i < l.length) : ((ints l).drop i)[0]? = some (.int .i64 (l.getD i 0 : Nat)) := by
  simp [ints, List.getD, h]
theorem getD_mid (A : List Nat) (x : Nat) (B : List Nat) : (A ++ x :: B).getD A.length 0 = x := by simp [List.getD]
def WInv (p : List UInt8) (t : Nat) (w : List Nat) : Prop := w.length = t ∧ W32 w ∧ (t ≤ 16 → w = (words p).take t) ∧ (16 ≤ t → sched (64 - t) w = schedOf p)
theorem sum4 {Z a V b : Nat} (hZ : Z < M32) (ha : a < M32) (hV : V < M32) (hb : b < M32) :
    IntKind.i64.wrap (IntKind.i64.wrap (IntKind.i64.wrap ((Z : Int) + (a : Int)) + (V : Int)) + (b : Int)) = ((Z + a + V + b : Nat) : Int) ∧ Z + a + V + b ≤ 4611686018427387904 := by
  simp only [M32] at *
  have e1 : IntKind.i64.wrap ((Z : Int) + (a : Int)) = ((Z + a : Nat) : Int) := w64 (by omega) (by omega)
  have e2 : IntKind.i64.wrap (((Z + a : Nat) : Int) + (V : Int)) = ((Z + a + V : Nat) : Int) := w64 (by omega) (by omega)
  have e3 : IntKind.i64.wrap (((Z + a + V : Nat) : Int) + (b : Int)) = ((Z + a + V + b : Nat) : Int) := w64 (by omega) (by omega)
  rw [e1, e2, e3]
  exact ⟨rfl, by omega⟩
theorem sum5 {Z a V b d : Nat} (hZ : Z < M32) (ha : a < M32) (hV : V < M32) (hb : b < M32) (hd : d < M32) :
    IntKind.i64.wrap (IntKind.i64.wrap (IntKind.i64.wrap (IntKind.i64.wrap ((Z : Int) + (a : Int)) + (V : Int)) + (b : Int)) + (d : Int)) = ((Z + a + V + b + d : Nat) : Int) ∧ Z + a + V + b + d ≤ 4611686018427387904 := by
  obtain ⟨h1, _⟩ := sum4 hZ ha hV hb
  rw [h1]
  simp only [M32] at *
  exact ⟨w64 (by omega) (by omega), by omega⟩
theorem sum2 {Z a : Nat} (hZ : Z < M32) (ha : a < M32 + M32) : IntKind.i64.wrap ((Z : Int) + (a : Int)) = ((Z + a : Nat) : Int) ∧ Z + a ≤ 4611686018427387904 := by
  simp only [M32] at *
  exact ⟨w64 (by omega) (by omega), by omega⟩
theorem lt2 {a : Nat} (h : a < M32) : a < M32 + M32 := Nat.lt_of_lt_of_le h (Nat.le_add_left _ _)
theorem round_eq (v0 v1 v2 v3 v4 v5 v6 v7 kt wt : Nat) : round [v0, v1, v2, v3, v4, v5, v6, v7] (kt + wt) =
    [((v7 + Sig1 v4 + ((v4 &&& v5) ^^^ ((4294967295 - v4) &&& v6)) + kt + wt) % M32 + (Sig0 v0 + ((v0 &&& v1) ^^^ (v0 &&& v2) ^^^ (v1 &&& v2)))) % M32, v0, v1, v2,
      (v3 + (v7 + Sig1 v4 + ((v4 &&& v5) ^^^ ((4294967295 - v4) &&& v6)) + kt + wt) % M32) % M32, v4, v5, v6] := by
  simp only [round, List.getD, List.getElem?_cons_zero, List.getElem?_cons_succ, Option.getD_some]
  rw [Nat.add_mod_mod, ← Nat.add_assoc (v7 + Sig1 v4 + ((v4 &&& v5) ^^^ ((4294967295 - v4) &&& v6))) kt wt]
theorem div32 {X k : Nat} (hX : X < M32) : IntKind.i64.wrap ((X : Int).tdiv (k : Int)) = ((X / k : Nat) : Int) :=
  w64 rfl (by have := Nat.div_le_self X k; simp only [M32] at hX; omega)
set_option maxHeartbeats 8000000 in
theorem SumR_ok (s : List UInt8) (hs : s.length ≤ 70368744177664) : Calc cx 6 [.str s] (.str (sha s)) :=
  pure_intro (fun a w => Tryz.call6 a w) Tryz.func6 rfl Tryz.ntmps6 rfl .str fun B => by
    refine go (M := [30]) 1000 rfl ⟨?_, ?_, ?_, rfl, rfl, allOne_mem (cs := [.int .u8 128]) rfl, allOne_mem (cs := [.int .u8 128]) rfl, rfl, trivial⟩ ?_
    · show s.length + 1 ≤ 9223372036854775807; omega
    · show (s.length + 1) * 1 ≤ 140737488355328; omega
    · show 0 + s.length * 1 = (s.map byteAV).length; simp
    have hbl : ∀ k, ((s ++ [128] ++ List.replicate k (0 : UInt8))).length = s.length + 1 + k := fun k => by simp; omega
    have hpl : padLen s.length < 64 := Nat.mod_lt _ (by decide)
    refine S_while (α := Nat × Nat) (fun (u, k) => [(0, .str s), (3, .ms 0 u 0 (s.length + 1 + k) 1 false)]) (fun (u, k) => [bB u (s ++ [128] ++ List.replicate k 0) ⟨false, some 5⟩])
      (fun (u, k) => k ≤ padLen s.length) (fun (u, k) => padLen s.length - k) (1, 0)
      (Nat.zero_le _) (.cons rfl (.cons rfl (.nil _))) (by simp only [bB, List.replicate_zero, List.append_nil, List.map_append, List.map_cons, List.map_nil]; rfl) ?_
    rintro ⟨u, k⟩ hk
    refine ab 1000 rfl ⟨by decide, trivial⟩ ?_
    have hmod : (((s.length + 1 + k : Nat) : Int)).tmod 64 = (((s.length + 1 + k) % 64 : Nat) : Int) := rfl
    refine S_bne rfl (fun h56 => ?_) (fun h56 => ?_)
    · have h56 : (s.length + 1 + k) % 64 ≠ 56 := by
        have : ((((s.length + 1 + k : Nat) : Int)).tmod 64) ≠ 56 := h56
        rw [hmod] at this; omega
      have hkl : k < padLen s.length := by unfold padLen at *; omega
      refine ab 1000 rfl ⟨?_, ?_, ?_, rfl, rfl, allOne_mem (cs := [.int .u8 0]) rfl, allOne_mem (cs := [.int .u8 0]) rfl, rfl, trivial⟩ ?_
      · show s.length + 1 + k + 1 ≤ 9223372036854775807; omega
      · show (s.length + 1 + k + 1) * 1 ≤ 140737488355328; omega
      · show 0 + (s.length + 1 + k) * 1 = ((s ++ [128] ++ List.replicate k (0 : UInt8)).map byteAV).length
        rw [List.length_map, hbl]; omega
      refine S_round (u + 1, k + 1) (by show padLen s.length - (k + 1) < padLen s.length - k; omega) hkl (.cons rfl (.cons rfl (.nil _))) ?_
      show [(u + 1, some (Box.cells ((s ++ [128] ++ List.replicate k (0 : UInt8)).map byteAV ++ [.int .u8 0]) _))] = [bB (u + 1) (s ++ [128] ++ List.replicate (k + 1) 0) _]
      rw [List.replicate_succ', ← List.append_assoc]
      simp only [bB, List.map_append, List.map_cons, List.map_nil]
      rfl
    have h56 : (s.length + 1 + k) % 64 = 56 := by
      have : ((((s.length + 1 + k : Nat) : Int)).tmod 64) = 56 := h56
      rw [hmod] at this; omega
    have hkl : k = padLen s.length := by unfold padLen at *; omega
    subst hkl
    obtain ⟨base, hbase⟩ : ∃ base, base = s ++ [128] ++ List.replicate (padLen s.length) (0 : UInt8) := ⟨_, rfl⟩
    have hbl' : base.length = s.length + 1 + padLen s.length := by rw [hbase]; exact hbl _
    have hpd : padded s = base ++ be8 (8 * s.length) := by rw [hbase]; rfl
    have hw8 : IntKind.i64.wrap (8 * (s.length : Int)) = ((8 * s.length : Nat) : Int) := w64 (by omega) (by omega)
    refine ab 1000 rfl trivial ?_
    refine S_while (α := Nat × Nat) (fun (u, j) => [(3, .ms 0 u 0 (base.length + j) 1 false), (4, .int .i64 (8 * s.length : Nat)), (5, .int .i64 (7 - (j : Int)))]) (fun (u, j) => [bB u (base ++ (be8 (8 * s.length)).take j) ⟨false, some 5⟩])
      (fun (u, j) => j ≤ 8) (fun (u, j) => 8 - j) (u, 0)
      (Nat.zero_le _) (.cons (by rw [hbl']; rfl) (.cons (ai64 (by omega) (by omega)) (.cons rfl (.nil _)))) (by rw [hbase]; simp) ?_
    rintro ⟨u, j⟩ hj
    refine ab 1000 rfl trivial ?_
    refine S_dec rfl (fun hlt => ?_) (fun hlt => ?_)
    · have hj8 : j < 8 := by omega
      have hw3 : IntKind.i64.wrap (8 * (7 - (j : Int))) = ((8 * (7 - j) : Nat) : Int) := w64 (by omega) (by omega)
      refine ab 1000 rfl trivial ?_
      refine S_pure rfl rfl rfl (Pow2_ok (8 * (7 - j)) (by omega)) (.cons (by show Frz false _ (AV.int .i64 (IntKind.i64.wrap (8 * (7 - (j : Int))))) _; rw [hw3]; exact .refl .int) (.nil _)) ?_
      have hp0 : 0 < 2 ^ (8 * (7 - j)) := Nat.two_pow_pos _
      have e256 : (2 : Nat) ^ (8 * (7 - j)) = 256 ^ (7 - j) := by rw [show (256 : Nat) = 2 ^ 8 from rfl, ← Nat.pow_mul]
      have hval : AV.int .u8 (IntKind.u8.wrap ((IntKind.i64.wrap (((8 * s.length : Nat) : Int).tdiv ((2 ^ (8 * (7 - j)) : Nat) : Int))).tmod 256)) = byteAV (UInt8.ofNat (8 * s.length / 256 ^ (7 - j) % 256)) := by
        have hd : IntKind.i64.wrap (((8 * s.length : Nat) : Int).tdiv ((2 ^ (8 * (7 - j)) : Nat) : Int)) = ((8 * s.length / 256 ^ (7 - j) : Nat) : Int) := by
          rw [← e256]
          exact w64 rfl (by have := Nat.div_le_self (8 * s.length) (2 ^ (8 * (7 - j))); omega)
        rw [hd]
        show AV.int .u8 (IntKind.u8.wrap ((8 * s.length / 256 ^ (7 - j) % 256 : Nat) : Int)) = _
        rw [wrap_low rfl]
        exact byteAV_of (by simp [IntKind.bits]) (Nat.mod_lt _ (by decide))
      refine ab 1000 rfl ⟨?_, ?_, ?_, rfl, rfl, ?_, ?_, rfl, by decide, by omega, trivial⟩ ?_
      · show base.length + j + 1 ≤ 9223372036854775807; omega
      · show (base.length + j + 1) * 1 ≤ 140737488355328; omega
      · show 0 + (base.length + j) * 1 = ((base ++ (be8 (8 * s.length)).take j).map byteAV).length
        simp [be8]; omega
      · exact allOne_mem (cs := [.int .u8 _]) rfl
      · exact allOne_mem (cs := [.int .u8 _]) rfl
      refine S_round (u + 1, j + 1) (by show 8 - (j + 1) < 8 - j; omega) hj8 (.cons rfl (.cons rfl (.cons ?_ (.nil _)))) ?_
      · show AV.int .i64 (IntKind.i64.wrap (7 - (j : Int) - 1)) = .int .i64 (7 - ((j + 1 : Nat) : Int))
        exact ai64i (by omega) (by omega)
      · show [(u + 1, some (Box.cells ((base ++ (be8 (8 * s.length)).take j).map byteAV ++ [AV.int .u8 (IntKind.u8.wrap ((IntKind.i64.wrap (((8 * s.length : Nat) : Int).tdiv ((2 ^ (8 * (7 - j)) : Nat) : Int))).tmod 256))]) _))] = [bB (u + 1) (base ++ (be8 (8 * s.length)).take (j + 1)) _]
        rw [hval]
        have ht : (be8 (8 * s.length)).take (j + 1) = (be8 (8 * s.length)).take j ++ [UInt8.ofNat (8 * s.length / 256 ^ (7 - j) % 256)] := by
          rw [List.take_succ_eq_append_getElem (by simp [be8]; omega)]
          simp [be8]
        rw [ht]
        simp only [bB, List.map_append, List.map_cons, List.map_nil, List.append_assoc]
        rfl
    have hj8 : j = 8 := by omega
    subst hj8
    have htake : base ++ (be8 (8 * s.length)).take 8 = padded s := by rw [hpd, List.take_of_length_le (by simp [be8])]
    have hPl : (padded s).length = base.length + 8 := by rw [hpd, List.length_append]; simp [be8]
    have hPm := padded_mod s
    have hPb : (padded s).length ≤ 140737488355328 := by rw [padded_len]; omega
    refine S_heap [bB u (padded s) ⟨false, some 5⟩] (by rw [← htake]) ?_
    refine ab 1000 rfl trivial ?_
    refine S_pure rfl rfl rfl Constants_ok (.nil _) ?_
    refine ab 1000 rfl trivial ?_
    refine S_callf [] Firsts_ok rfl (.nil _) (Part.mk' (es := []) rfl rfl (.nil _)) rfl rfl ?_ (by rintro y σ1 ⟨h1, _⟩; cases h1)
    rintro y σ1 ⟨h1, rfl⟩
    cases h1
    refine ⟨.ms 1 0 0 8 1 true, [iB 0 hTab], .cons (.live (.cells (Rns.free (ints_any _)))) (.nil _), .ms rfl, ?_⟩
    refine S_heap [bB u (padded s) ⟨false, some 5⟩, iB 0 hTab] rfl ?_
    refine ab 1000 rfl trivial ?_
    refine S_dead ?_ ⟨_, _, .inl rfl⟩
    refine S_dead ?_ ⟨_, _, .inl rfl⟩
    refine S_dead ?_ ⟨_, _, .inl rfl⟩
    obtain ⟨P, hP⟩ : ∃ P, P = padded s := ⟨_, rfl⟩
    rw [← hP] at hPl hPm hPb ⊢
    have hHs : hashOf s = blocks (P.length / 64) hTab P := by rw [hP]; rfl
    refine S_while (α := Nat × List Nat × Nat × Nat × Nat) (fun (m, h, a, b, c) => [(3, .ms 0 u 0 P.length 1 false), (6, .sl true true 1 (ints kTab)), (7, .ms 1 0 0 8 1 true), (8, .int .i64 (64 * m : Nat))])
      (fun (m, h, a, b, c) => [bB u P ⟨false, some 5⟩, iB 0 h, (a, none), (b, none), (c, none)])
      (fun (m, h, a, b, c) => 64 * m ≤ P.length ∧ h.length = 8 ∧ W32 h ∧ blocks (P.length / 64 - m) h (P.drop (64 * m)) = hashOf s) (fun (m, h, a, b, c) => P.length - 64 * m) (0, hTab, 0, 0, 0)
      ⟨Nat.zero_le _, rfl, by show ∀ x ∈ hTab, x < M32; decide +kernel, by rw [hHs]; rfl⟩ (.cons (by rw [hPl]; rfl) (.cons rfl (.cons rfl (.cons rfl (.nil _))))) rfl ?_
    rintro ⟨m, h, a, b, c⟩ ⟨hm, hhl, hh32, hN⟩
    refine ab 1000 rfl trivial ?_
    refine S_dec rfl (fun hlt => ?_) (fun hlt => ?_)
    · have hm64 : 64 * m + 64 ≤ P.length := by omega
      obtain ⟨p, hp⟩ : ∃ p, p = P.drop (64 * m) := ⟨_, rfl⟩
      have hpl : 64 ≤ p.length := by rw [hp, List.length_drop]; omega
      have hpg : ∀ i, i < 64 → P.getD (64 * m + i) 0 = p.getD i 0 := by
        intro i hi
        rw [hp]
        simp [List.getD]
      refine ab 1000 rfl trivial ?_
      refine S_ghostF (t := 9) 1 ⟨false, none⟩ rfl rfl ⟨_, _, .inl rfl⟩ ?_
      refine S_while (α := Nat × List Nat × Nat) (fun (t, w, x) => [(3, .ms 0 u 0 P.length 1 false), (6, .sl true true 1 (ints kTab)), (7, .ms 1 0 0 8 1 true), (8, .int .i64 (64 * m : Nat)), (9, .ms 2 x 0 t 1 false), (10, .int .i64 (t : Nat))])
        (fun (t, w, x) => [bB u P ⟨false, some 5⟩, iB 0 h, iB x w, (b, none), (c, none)])
        (fun (t, w, x) => t ≤ 64 ∧ WInv p t w) (fun (t, w, x) => 64 - t) (0, [], a + 1)
        ⟨Nat.zero_le _, rfl, (by intro y hy; cases hy), fun _ => rfl, fun h => absurd h (by decide)⟩ (.cons rfl (.cons rfl (.cons rfl (.cons rfl (.cons rfl (.cons rfl (.nil _))))))) rfl ?_
      rintro ⟨t, w, x⟩ ⟨ht64, hwl, hw32, hw16, hws⟩
      have ht64 : t ≤ 64 := ht64
      refine ab 1000 rfl trivial ?_
      refine S_dec rfl (fun hlt => ?_) (fun hlt => ?_)
      · have ht : t < 64 := by omega
        refine ab 1000 rfl trivial ?_
        refine S_dec rfl (fun hlt => ?_) (fun hlt => ?_)
        · have ht16 : t < 16 := by omega
          have hw0 := hw16 (by omega)
          refine ab 1000 rfl trivial ?_
          refine S_while (α := Nat) (fun j => [(3, .ms 0 u 0 P.length 1 false), (6, .sl true true 1 (ints kTab)), (7, .ms 1 0 0 8 1 true), (8, .int .i64 (64 * m : Nat)), (9, .ms 2 x 0 t 1 false), (10, .int .i64 (t : Nat)), (11, .int .i64 (accW p (4 * t) j : Nat)), (12, .int .i64 (j : Nat))])
            (fun j => [bB u P ⟨false, some 5⟩, iB 0 h, iB x w, (b, none), (c, none)]) (fun j => j ≤ 4) (fun j => 4 - j) 0
            (Nat.zero_le _) (.cons rfl (.cons rfl (.cons rfl (.cons rfl (.cons rfl (.cons rfl (.cons rfl (.cons rfl (.nil _))))))))) rfl ?_
          intro j hj
          refine ab 1000 rfl trivial ?_
          refine S_dec rfl (fun hlt => ?_) (fun hlt => ?_)
          · have hj4 : j < 4 := by omega
            have hacc := accW_lt p (4 * t) j
            have hap : 256 ^ j ≤ 256 ^ 3 := Nat.pow_le_pow_right (by decide) (by omega)
            have hi1 : IntKind.i64.wrap (4 * (t : Int)) = ((4 * t : Nat) : Int) := w64 (by omega) (by omega)
            have hi2 : IntKind.i64.wrap (((64 * m : Nat) : Int) + ((4 * t : Nat) : Int)) = ((64 * m + 4 * t : Nat) : Int) := w64 (by omega) (by omega)
            have hi3 : IntKind.i64.wrap (((64 * m + 4 * t : Nat) : Int) + (j : Int)) = ((64 * m + (4 * t + j) : Nat) : Int) := w64 (by omega) (by omega)
            refine ab 1000 rfl trivial ?_
            refine S_index .top rfl rfl rfl ⟨rfl, by rw [hi1, hi2, hi3]; omega, by rw [hi1, hi2, hi3]; omega, trivial⟩ ?_
            refine S_load (byteAV (p.getD (4 * t + j) 0)) rfl rfl rfl ⟨rfl, ?_, trivial⟩ ?_
            · show ((P.map byteAV).drop (offN 0 (mulN (IntKind.i64.wrap (IntKind.i64.wrap (((64 * m : Nat) : Int) + IntKind.i64.wrap (4 * (t : Int))) + (j : Int))).toNat 1)))[0]? = _
              rw [hi1, hi2, hi3, offN_eq, mulN_eq, Int.toNat_natCast, Nat.mul_one, Nat.zero_add, bytes_ld (by omega), hpg _ (by omega)]
            refine ab 1000 rfl trivial ?_
            have hb8 := (p.getD (4 * t + j) 0).toNat_lt
            refine S_round (j + 1) (by show 4 - (j + 1) < 4 - j; omega) hj4 (.cons rfl (.cons rfl (.cons rfl (.cons rfl (.cons rfl (.cons rfl (.cons ?_ (.cons (ai64 rfl (by omega)) (.nil _))))))))) rfl
            show AV.int .i64 (IntKind.i64.wrap (IntKind.i64.wrap (256 * ((accW p (4 * t) j : Nat) : Int)) + IntKind.i64.wrap (((p.getD (4 * t + j) 0).toNat : Nat) : Int))) = .int .i64 (accW p (4 * t) (j + 1) : Nat)
            rw [w64 (x := 256 * ((accW p (4 * t) j : Nat) : Int)) (k := 256 * accW p (4 * t) j) (by omega) (by omega), w64 (k := (p.getD (4 * t + j) 0).toNat) rfl (by omega)]
            exact ai64 (by rw [accW]; omega) (by rw [accW]; omega)
          · have hj4 : j = 4 := by omega
            subst hj4
            have hacc := accW_lt p (4 * t) 4
            refine ab 1000 rfl ⟨?_, ?_, ?_, rfl, rfl, ?_, ?_, rfl, trivial⟩ ?_
            · show t + 1 ≤ 9223372036854775807; omega
            · show (t + 1) * 8 ≤ 140737488355328; omega
            · show 0 + t * 1 = (ints w).length; rw [ints_len]; omega
            · exact allOne_mem (cs := [.int .i64 _]) rfl
            · exact allOne_mem (cs := [.int .i64 _]) rfl
            have hnext : (words p).take (t + 1) = w ++ [accW p (4 * t) 4] := by
              rw [List.take_succ_eq_append_getElem (by rw [words_len]; exact ht16), words_get p ht16, ← hw0]
            refine S_round (t + 1, w ++ [accW p (4 * t) 4], x + 1) (by show 64 - (t + 1) < 64 - t; omega) ⟨by omega, by simp [hwl], hw32.app (.one hacc), fun _ => hnext.symm, fun h => ?_⟩ (.cons rfl (.cons rfl (.cons rfl (.cons rfl (.cons rfl (.cons (ai64 rfl (by omega)) (.nil _))))))) ?_
            · have h15 : t + 1 = 16 := by omega
              rw [← hnext, h15, List.take_of_length_le (by rw [words_len]; exact Nat.le_refl _)]; rfl
            · show [bB u P _, iB 0 h, (x + 1, some (Box.cells (ints w ++ [.int .i64 (accW p (4 * t) 4 : Nat)]) ⟨false, none⟩)), (b, none), (c, none)] = _
              simp [iB, ints]
        · have ht16 : 16 ≤ t := by omega
          have hi15 : IntKind.i64.wrap ((t : Int) - 15) = ((t - 15 : Nat) : Int) := w64 (by omega) (by omega)
          have hi2 : IntKind.i64.wrap ((t : Int) - 2) = ((t - 2 : Nat) : Int) := w64 (by omega) (by omega)
          have hi16 : IntKind.i64.wrap ((t : Int) - 16) = ((t - 16 : Nat) : Int) := w64 (by omega) (by omega)
          have hi7 : IntKind.i64.wrap ((t : Int) - 7) = ((t - 7 : Nat) : Int) := w64 (by omega) (by omega)
          have g15 : 0 ≤ IntKind.i64.wrap ((t : Int) - 15) ∧ IntKind.i64.wrap ((t : Int) - 15) < (t : Int) ∧ t - 15 < t := by rw [hi15]; omega
          have g2 : 0 ≤ IntKind.i64.wrap ((t : Int) - 2) ∧ IntKind.i64.wrap ((t : Int) - 2) < (t : Int) ∧ t - 2 < t := by rw [hi2]; omega
          have g16 : 0 ≤ IntKind.i64.wrap ((t : Int) - 16) ∧ IntKind.i64.wrap ((t : Int) - 16) < (t : Int) ∧ t - 16 < t := by rw [hi16]; omega
          have g7 : 0 ≤ IntKind.i64.wrap ((t : Int) - 7) ∧ IntKind.i64.wrap ((t : Int) - 7) < (t : Int) ∧ t - 7 < t := by rw [hi7]; omega
          have k1 : t + 1 ≤ 9223372036854775807 ∧ (t + 1) * 8 ≤ 140737488355328 ∧ 0 + t * 1 = (ints w).length := by rw [ints_len]; omega
          have k2 : 64 - (t + 1) < 64 - t ∧ t + 1 ≤ 64 ∧ ¬ t + 1 ≤ 16 ∧ (w ++ [wNext w]).length = t + 1 := by rw [List.length_append]; simp only [List.length_cons, List.length_nil]; omega
          have k3 : AV.int .i64 (IntKind.i64.wrap ((t : Int) + 1)) = .int .i64 ((t + 1 : Nat) : Int) := ai64 rfl (by omega)
          have k4 : 64 - t = (64 - (t + 1)) + 1 := by omega
          have ld : ∀ (i : Int) (k : Nat), i = (k : Int) → k < t → ((ints w).drop (offN 0 (mulN i.toNat 1)))[0]? = some (.int .i64 (w.getD k 0 : Nat)) := by
            intro i k hi hk
            rw [hi, offN_eq, mulN_eq, Int.toNat_natCast, Nat.mul_one, Nat.zero_add, ints_ld (by omega)]
          obtain ⟨X, hX⟩ : ∃ X, X = w.getD (t - 15) 0 := ⟨_, rfl⟩
          obtain ⟨Y, hY⟩ : ∃ Y, Y = w.getD (t - 2) 0 := ⟨_, rfl⟩
          obtain ⟨Z, hZ⟩ : ∃ Z, Z = w.getD (t - 16) 0 := ⟨_, rfl⟩
          obtain ⟨V, hV⟩ : ∃ V, V = w.getD (t - 7) 0 := ⟨_, rfl⟩
          have hX32 : X < M32 := by rw [hX]; exact hw32.getD _
          have hY32 : Y < M32 := by rw [hY]; exact hw32.getD _
          have hZ32 : Z < M32 := by rw [hZ]; exact hw32.getD _
          have hV32 : V < M32 := by rw [hV]; exact hw32.getD _
          refine ab 1000 rfl trivial ?_
          refine S_draw 12 [] [.top, .int .i64 (X : Nat), .top, .int .i64 (Y : Nat)] rfl rfl rfl rfl ⟨rfl, rfl, rfl, rfl, g15.1, g15.2.1, rfl, (by rw [hX]; exact ld _ _ hi15 g15.2.2), rfl, rfl, rfl, rfl, g2.1, g2.2.1, rfl, (by rw [hY]; exact ld _ _ hi2 g2.2.2), rfl, rfl, trivial⟩ ?_
          refine ab 1000 rfl trivial ?_
          refine S_pure rfl rfl rfl (Right_ok X 7 hX32 (by decide) (by decide)) (.cons (.refl .int) (.cons (.refl .int) (.nil _))) ?_
          refine ab 1000 rfl trivial ?_
          refine S_pure rfl rfl rfl (Right_ok X 18 hX32 (by decide) (by decide)) (.cons (.refl .int) (.cons (.refl .int) (.nil _))) ?_
          refine ab 1000 rfl ⟨by decide, trivial⟩ ?_
          have hx8 : IntKind.i64.wrap ((X : Int).tdiv 8) = ((X / 8 : Nat) : Int) := div32 (k := 8) hX32
          have hs0 : Calc cx 20 [.sl true true 1 (ints [rotr X 7, rotr X 18, X / 8])] (.int .i64 (sig0 X : Nat)) := by
            have := xor_ok (st := true) (fl := true) [rotr X 7, rotr X 18, X / 8] (by intro y hy; simp at hy; rcases hy with rfl | rfl | rfl; exact rotr_lt _ hX32; exact rotr_lt _ hX32; exact div_lt _ hX32) (by simp)
            rwa [xorL_three (rotr_lt _ hX32) (rotr_lt _ hX32) (div_lt _ hX32)] at this
          refine S_pure rfl rfl rfl hs0 (.cons ?_ (.nil _)) ?_
          · show Frz false _ (.sl true true 1 [.int .i64 (rotr X 7 : Nat), .int .i64 (rotr X 18 : Nat), .int .i64 (IntKind.i64.wrap ((X : Int).tdiv 8))]) _
            rw [hx8]; exact .refl (.sl (fun h => by cases h) (ints_any [rotr X 7, rotr X 18, X / 8]))
          refine ab 1000 rfl trivial ?_
          refine S_pure rfl rfl rfl (Right_ok Y 17 hY32 (by decide) (by decide)) (.cons (.refl .int) (.cons (.refl .int) (.nil _))) ?_
          refine ab 1000 rfl trivial ?_
          refine S_pure rfl rfl rfl (Right_ok Y 19 hY32 (by decide) (by decide)) (.cons (.refl .int) (.cons (.refl .int) (.nil _))) ?_
          refine ab 1000 rfl ⟨by decide, trivial⟩ ?_
          have hy10 : IntKind.i64.wrap ((Y : Int).tdiv 1024) = ((Y / 1024 : Nat) : Int) := div32 (k := 1024) hY32
          have hs1 : Calc cx 20 [.sl true true 1 (ints [rotr Y 17, rotr Y 19, Y / 1024])] (.int .i64 (sig1 Y : Nat)) := by
            have := xor_ok (st := true) (fl := true) [rotr Y 17, rotr Y 19, Y / 1024] (by intro y hy; simp at hy; rcases hy with rfl | rfl | rfl; exact rotr_lt _ hY32; exact rotr_lt _ hY32; exact div_lt _ hY32) (by simp)
            rwa [xorL_three (rotr_lt _ hY32) (rotr_lt _ hY32) (div_lt _ hY32)] at this
          refine S_pure rfl rfl rfl hs1 (.cons ?_ (.nil _)) ?_
          · show Frz false _ (.sl true true 1 [.int .i64 (rotr Y 17 : Nat), .int .i64 (rotr Y 19 : Nat), .int .i64 (IntKind.i64.wrap ((Y : Int).tdiv 1024))]) _
            rw [hy10]; exact .refl (.sl (fun h => by cases h) (ints_any [rotr Y 17, rotr Y 19, Y / 1024]))
          refine ab 1000 rfl trivial ?_
          obtain ⟨hsum, hsle⟩ := sum4 hZ32 (sig0_lt hX32) hV32 (sig1_lt hY32)
          have hnx : wNext w = (Z + sig0 X + V + sig1 Y) % M32 := by rw [wNext, hwl, hX, hY, hZ, hV]
          refine S_draw 18 [] [.top, .int .i64 (Z : Nat), .top, .int .i64 (V : Nat), .int .i64 (wNext w : Nat)] rfl rfl rfl rfl ⟨rfl, rfl, rfl, rfl, rfl, g16.1, g16.2.1, rfl, (by rw [hZ]; exact ld _ _ hi16 g16.2.2), rfl, rfl, rfl, rfl, rfl, rfl, g7.1, g7.2.1, rfl, (by rw [hV]; exact ld _ _ hi7 g7.2.2), rfl, rfl, rfl, ⟨_, (by rw [hnx]; exact Wrap_ok (Z + sig0 X + V + sig1 Y) hsle), .cons (by show Frz false _ (.int .i64 (IntKind.i64.wrap (IntKind.i64.wrap (IntKind.i64.wrap ((Z : Int) + ((sig0 X : Nat) : Int)) + (V : Int)) + ((sig1 Y : Nat) : Int)))) _; rw [hsum]; exact .refl .int) (.nil _)⟩, rfl, trivial⟩ ?_
          refine ab 1000 rfl ⟨k1.1, k1.2.1, k1.2.2, rfl, rfl, allOne_mem (cs := [.int .i64 _]) rfl, allOne_mem (cs := [.int .i64 _]) rfl, rfl, trivial⟩ ?_
          refine S_round (t + 1, w ++ [wNext w], x + 1) k2.1 ⟨k2.2.1, k2.2.2.2, hw32.app (.one (wNext_lt w)), fun h => absurd h k2.2.2.1, fun _ => ?_⟩ (.cons rfl (.cons rfl (.cons rfl (.cons rfl (.cons rfl (.cons k3 (.nil _))))))) ?_
          · have := hws ht16
            rw [k4, sched] at this
            exact this
          · show [bB u P _, iB 0 h, (x + 1, some (Box.cells (ints w ++ [.int .i64 (wNext w : Nat)]) ⟨false, none⟩)), (b, none), (c, none)] = _
            simp [iB, ints]
      · have ht : t = 64 := by omega
        subst ht
        have hW : w = schedOf p := hws (by decide)
        have hWl : w.length = 64 := hwl
        refine go (M := [137]) 1000 rfl ⟨by decide, ?_, .inl (by decide), ?_, rfl, rfl, fun y hy => ints_one h y (List.mem_of_mem_take hy), ?_, rfl, rfl, trivial⟩ ?_
        · show (0 + 8) * 8 ≤ 140737488355328; decide
        · exact Nat.zero_le _
        · show 0 + 8 * 1 ≤ (ints h).length; rw [ints_len]; omega
        refine S_drop (id := 3) rfl ?_ ⟨_, _, .inl rfl⟩
        refine S_heap [bB u P ⟨false, some 5⟩, iB 0 h, iB x w, (b + 1, none), iB (c + 1) h] ?_ ?_
        · show [_, _, _, (b + 1, none), (c + 1, some (Box.cells ((ints h).take 8) ⟨false, none⟩))] = _
          rw [List.take_of_length_le (by rw [ints_len]; omega)]; rfl
        refine S_freeze1 (t := 17) (id := 4) (len := 8) rfl rfl (by rw [ints_len]; exact hhl) (ints_one h) (ints_any h) ⟨_, _, .inl rfl⟩ ?_
        refine S_while (α := Nat × List Nat × Bool × Bool) (fun (t, v, st, fl) => [(3, .ms 0 u 0 P.length 1 false), (6, .sl true true 1 (ints kTab)), (7, .ms 1 0 0 8 1 true), (8, .int .i64 (64 * m : Nat)), (9, .ms 2 x 0 64 1 false), (17, .sl st fl 1 (ints v)), (18, .int .i64 (t : Nat))])
          (fun (t, v, st, fl) => [bB u P ⟨false, some 5⟩, iB 0 h, iB x w, (b + 1, none), (c + 1, none)])
          (fun (t, v, st, fl) => t ≤ 64 ∧ v.length = 8 ∧ W32 v ∧ rounds (64 - t) t w v = rounds 64 0 w h) (fun (t, v, st, fl) => 64 - t) (0, h, false, false)
          ⟨Nat.zero_le _, hhl, hh32, rfl⟩ (.cons rfl (.cons rfl (.cons rfl (.cons rfl (.cons rfl (.cons rfl (.cons rfl (.nil _)))))))) rfl ?_
        rintro ⟨t, v, st, fl⟩ ⟨ht64, hvl, hv32, hvN⟩
        have ht64 : t ≤ 64 := ht64
        have hvl : v.length = 8 := hvl
        refine ab 1000 rfl trivial ?_
        refine S_dec rfl (fun hlt => ?_) (fun hlt => ?_)
        · have ht : t < 64 := by omega
          obtain ⟨v0, v1, v2, v3, v4, v5, v6, v7, rfl⟩ : ∃ v0 v1 v2 v3 v4 v5 v6 v7, v = [v0, v1, v2, v3, v4, v5, v6, v7] := by
            match v, hvl with
            | [v0, v1, v2, v3, v4, v5, v6, v7], _ => exact ⟨_, _, _, _, _, _, _, _, rfl⟩
          have q0 : v0 < M32 := hv32 _ (by simp)
          have q1 : v1 < M32 := hv32 _ (by simp)
          have q2 : v2 < M32 := hv32 _ (by simp)
          have q3 : v3 < M32 := hv32 _ (by simp)
          have q4 : v4 < M32 := hv32 _ (by simp)
          have q5 : v5 < M32 := hv32 _ (by simp)
          have q6 : v6 < M32 := hv32 _ (by simp)
          have q7 : v7 < M32 := hv32 _ (by simp)
          have qn : 4294967295 - v4 < M32 := by simp only [M32]; omega
          obtain ⟨kt, hkt⟩ : ∃ kt, kt = kTab.getD t 0 := ⟨_, rfl⟩
          obtain ⟨wt, hwt⟩ : ∃ wt, wt = w.getD t 0 := ⟨_, rfl⟩
          have qk : kt < M32 := by rw [hkt]; exact kTab32.getD _
          have qw : wt < M32 := by rw [hwt]; exact hw32.getD _
          have hkg : (ints kTab)[(t : Int).toNat]? = some (.int .i64 (kt : Nat)) := by rw [Int.toNat_natCast, hkt]; exact ints_get (by show t < 64; exact ht)
          have hwg : ((ints w).drop (offN 0 (mulN (t : Int).toNat 1)))[0]? = some (.int .i64 (wt : Nat)) := by
            rw [offN_eq, mulN_eq, Int.toNat_natCast, Nat.mul_one, Nat.zero_add, hwt, ints_ld (by omega)]
          have hnw : IntKind.i64.wrap (4294967295 - (v4 : Int)) = ((4294967295 - v4 : Nat) : Int) := w64 (by simp only [M32] at q4; omega) (by omega)
          have t1 : 0 ≤ (t : Int) ∧ (t : Int) < 64 := by omega
          have t2 : 64 - (t + 1) < 64 - t ∧ t + 1 ≤ 64 := by omega
          have t3 : AV.int .i64 (IntKind.i64.wrap ((t : Int) + 1)) = .int .i64 ((t + 1 : Nat) : Int) := ai64 rfl (by omega)
          have t4 : 64 - t = (64 - (t + 1)) + 1 := by omega
          have xor2c : ∀ {a b : Nat}, a < M32 → b < M32 → Calc cx 20 [.sl true true 1 (ints [a, b])] (.int .i64 (a ^^^ b : Nat)) := fun {a b} ha hb => by
            have := xor_ok (st := true) (fl := true) [a, b] (by intro y hy; simp at hy; rcases hy with rfl | rfl; exact ha; exact hb) (by simp)
            rwa [xorL_two ha hb] at this
          have xor3c : ∀ {a b c : Nat}, a < M32 → b < M32 → c < M32 → Calc cx 20 [.sl true true 1 (ints [a, b, c])] (.int .i64 (a ^^^ b ^^^ c : Nat)) := fun {a b c} ha hb hc => by
            have := xor_ok (st := true) (fl := true) [a, b, c] (by intro y hy; simp at hy; rcases hy with rfl | rfl | rfl; exact ha; exact hb; exact hc) (by simp)
            rwa [xorL_three ha hb hc] at this
          refine ab 1000 rfl trivial ?_
          have z0 : (0 : Int) ≤ 0 := Int.le_refl _
          have z1 : (0 : Int) ≤ 1 := by decide
          have z2 : (0 : Int) ≤ 2 := by decide
          have z3 : (0 : Int) ≤ 3 := by decide
          have z4 : (0 : Int) ≤ 4 := by decide
          have z5 : (0 : Int) ≤ 5 := by decide
          have z6 : (0 : Int) ≤ 6 := by decide
          have z7 : (0 : Int) ≤ 7 := by decide
          have i2 : ∀ {σ : Heap} {a b : Nat}, Frzs σ [.int .i64 (a : Nat), .int .i64 (b : Nat)] [.int .i64 (a : Nat), .int .i64 (b : Nat)] := .cons (.refl .int) (.cons (.refl .int) (.nil _))
          have sl3 : ∀ {σ : Heap} {a b c : Nat}, Frzs σ [.sl true true 1 (ints [a, b, c])] [.sl true true 1 (ints [a, b, c])] := fun {σ a b c} => .cons (.refl (.sl (fun h => by cases h) (ints_any _))) (.nil _)
          have sl2 : ∀ {σ : Heap} {a b : Nat}, Frzs σ [.sl true true 1 (ints [a, b])] [.sl true true 1 (ints [a, b])] := fun {σ a b} => .cons (.refl (.sl (fun h => by cases h) (ints_any _))) (.nil _)
          refine S_draw 8 [] [.int .i64 (v0 : Nat), .int .i64 (v4 : Nat)] rfl rfl rfl rfl ⟨rfl, rfl, z0, rfl, rfl, rfl, rfl, z4, rfl, rfl, rfl, rfl, trivial⟩ ?_
          obtain ⟨ch, hch⟩ : ∃ ch, ch = (v4 &&& v5) ^^^ ((4294967295 - v4) &&& v6) := ⟨_, rfl⟩
          have qch : ch < M32 := by rw [hch]; exact xor_lt (and_lt q4) (and_lt qn)
          refine ab 1000 rfl trivial ?_
          refine S_draw 14 [] [.int .i64 (v5 : Nat), .int .i64 (v4 &&& v5 : Nat), .int .i64 (v6 : Nat), .int .i64 ((4294967295 - v4) &&& v6 : Nat), .int .i64 (ch : Nat)] rfl rfl rfl rfl
            ⟨rfl, rfl, rfl, z5, rfl, rfl, ⟨_, And_ok v4 v5 q4 q5, i2⟩, rfl, rfl, rfl, rfl, z6, rfl, rfl, ⟨_, And_ok (4294967295 - v4) v6 qn q6, .cons (by show Frz false _ (.int .i64 (IntKind.i64.wrap (4294967295 - (v4 : Int)))) _; rw [hnw]; exact .refl .int) (.cons (.refl .int) (.nil _))⟩, rfl, ⟨_, (by rw [hch]; exact xor2c (and_lt q4) (and_lt qn)), sl2⟩, rfl, trivial⟩ ?_
          refine ab 1000 rfl trivial ?_
          obtain ⟨hs5, hs5l⟩ := sum5 q7 (Sig1_lt q4) qch qk qw
          obtain ⟨U, hU⟩ : ∃ U, U = (v7 + Sig1 v4 + ch + kt + wt) % M32 := ⟨_, rfl⟩
          have qU : U < M32 := by rw [hU]; exact mod_lt _
          refine S_draw 26 [] [.int .i64 (v7 : Nat), .int .i64 (rotr v4 6 : Nat), .int .i64 (rotr v4 11 : Nat), .int .i64 (rotr v4 25 : Nat), .int .i64 (Sig1 v4 : Nat), .int .i64 (kt : Nat), .top, .int .i64 (wt : Nat), .int .i64 (U : Nat)] rfl rfl rfl rfl
            ⟨rfl, rfl, z7, rfl, rfl, rfl, ⟨_, Right_ok v4 6 q4 (by decide) (by decide), i2⟩, rfl, ⟨_, Right_ok v4 11 q4 (by decide) (by decide), i2⟩, rfl, ⟨_, Right_ok v4 25 q4 (by decide) (by decide), i2⟩, rfl, ⟨_, xor3c (rotr_lt 6 q4) (rotr_lt 11 q4) (rotr_lt 25 q4), sl3⟩, rfl, rfl, rfl, rfl, rfl, rfl, t1.1, hkg, rfl, rfl, rfl, rfl, rfl, t1.1, t1.2, rfl, hwg, rfl, ⟨_, (by rw [hU]; exact Wrap_ok _ hs5l), .cons (by show Frz false _ (.int .i64 (IntKind.i64.wrap (IntKind.i64.wrap (IntKind.i64.wrap (IntKind.i64.wrap ((v7 : Int) + ((Sig1 v4 : Nat) : Int)) + (ch : Int)) + (kt : Int)) + (wt : Int)))) _; rw [hs5]; exact .refl .int) (.nil _)⟩, rfl, trivial⟩ ?_
          refine ab 1000 rfl trivial ?_
          obtain ⟨mo, hmo⟩ : ∃ mo, mo = (v0 &&& v1) ^^^ (v0 &&& v2) ^^^ (v1 &&& v2) := ⟨_, rfl⟩
          have qmo : mo < M32 := by rw [hmo]; exact xor_lt (xor_lt (and_lt q0) (and_lt q0)) (and_lt q1)
          refine S_draw 20 [] [.int .i64 (v1 : Nat), .int .i64 (v0 &&& v1 : Nat), .int .i64 (v2 : Nat), .int .i64 (v0 &&& v2 : Nat), .int .i64 (v1 : Nat), .int .i64 (v2 : Nat), .int .i64 (v1 &&& v2 : Nat), .int .i64 (mo : Nat)] rfl rfl rfl rfl
            ⟨rfl, rfl, rfl, z1, rfl, rfl, ⟨_, And_ok v0 v1 q0 q1, i2⟩, rfl, rfl, rfl, z2, rfl, rfl, ⟨_, And_ok v0 v2 q0 q2, i2⟩, rfl, rfl, z1, rfl, rfl, rfl, rfl, z2, rfl, rfl, ⟨_, And_ok v1 v2 q1 q2, i2⟩, rfl, ⟨_, (by rw [hmo]; exact xor3c (and_lt q0) (and_lt q0) (and_lt q1)), sl3⟩, rfl, trivial⟩ ?_
          refine ab 1000 rfl trivial ?_
          refine S_pure rfl rfl rfl (Right_ok v0 2 q0 (by decide) (by decide)) i2 ?_
          refine ab 1000 rfl trivial ?_
          refine S_pure rfl rfl rfl (Right_ok v0 13 q0 (by decide) (by decide)) i2 ?_
          refine ab 1000 rfl trivial ?_
          refine S_pure rfl rfl rfl (Right_ok v0 22 q0 (by decide) (by decide)) i2 ?_
          refine ab 1000 rfl trivial ?_
          refine S_pure rfl rfl rfl (xor3c (rotr_lt 2 q0) (rotr_lt 13 q0) (rotr_lt 22 q0)) sl3 ?_
          have hsm := (sum2 (Z := Sig0 v0) (a := mo) (Sig0_lt q0) (lt2 qmo)).1
          have qsm : Sig0 v0 + mo < M32 + M32 := Nat.add_lt_add (Sig0_lt q0) qmo
          refine ab 1000 rfl trivial ?_
          refine S_weak (fr' := [(3, .ms 0 u 0 P.length 1 false), (6, .sl true true 1 (ints kTab)), (7, .ms 1 0 0 8 1 true), (8, .int .i64 (64 * m : Nat)), (9, .ms 2 x 0 64 1 false), (17, .sl st fl 1 (ints [v0, v1, v2, v3, v4, v5, v6, v7])), (18, .int .i64 (t : Nat)), (22, .int .i64 (U : Nat)), (24, .int .i64 (Sig0 v0 + mo : Nat))]) (.cons rfl (.cons rfl (.cons rfl (.cons rfl (.cons rfl (.cons rfl (.cons rfl (.cons rfl (.cons (congrArg (AV.int .i64) hsm) (.nil _)))))))))) ?_
          obtain ⟨na, hna⟩ : ∃ na, na = (U + (Sig0 v0 + mo)) % M32 := ⟨_, rfl⟩
          obtain ⟨ne, hne⟩ : ∃ ne, ne = (v3 + U) % M32 := ⟨_, rfl⟩
          obtain ⟨hs6, hs6l⟩ := sum2 qU qsm
          obtain ⟨hs7, hs7l⟩ := sum2 q3 (lt2 qU)
          refine S_draw 30 [] [.int .i64 (na : Nat), .int .i64 (v0 : Nat), .int .i64 (v1 : Nat), .int .i64 (v2 : Nat), .int .i64 (v3 : Nat), .int .i64 (ne : Nat), .int .i64 (v4 : Nat), .int .i64 (v5 : Nat), .int .i64 (v6 : Nat)] rfl rfl rfl rfl
            ⟨rfl, rfl, rfl, ⟨_, (by rw [hna]; exact Wrap_ok _ hs6l), .cons (by show Frz false _ (.int .i64 (IntKind.i64.wrap ((U : Int) + ((Sig0 v0 + mo : Nat) : Int)))) _; rw [hs6]; exact .refl .int) (.nil _)⟩, rfl, rfl, z0, rfl, rfl, rfl, rfl, z1, rfl, rfl, rfl, rfl, z2, rfl, rfl, rfl, rfl, z3, rfl, rfl, rfl, rfl, ⟨_, (by rw [hne]; exact Wrap_ok _ hs7l), .cons (by show Frz false _ (.int .i64 (IntKind.i64.wrap ((v3 : Int) + (U : Int)))) _; rw [hs7]; exact .refl .int) (.nil _)⟩, rfl, rfl, z4, rfl, rfl, rfl, rfl, z5, rfl, rfl, rfl, rfl, z6, rfl, rfl, rfl, rfl, trivial⟩ ?_
          refine ab 1000 rfl trivial ?_
          have hro : round [v0, v1, v2, v3, v4, v5, v6, v7] (kt + wt) = [na, v0, v1, v2, ne, v4, v5, v6] := by rw [round_eq, hna, hne, hU, hch, hmo]
          refine S_round (t + 1, [na, v0, v1, v2, ne, v4, v5, v6], true, true) t2.1 ⟨t2.2, rfl, by rw [← hro]; exact round_lt _ hv32, ?_⟩ (.cons rfl (.cons rfl (.cons rfl (.cons rfl (.cons rfl (.cons rfl (.cons t3 (.nil _)))))))) rfl
          rw [t4, rounds, ← hkt, ← hwt, hro] at hvN
          exact hvN
        · have ht : t = 64 := by omega
          subst ht
          have hvE : v = rounds 64 0 w h := hvN
          have hblk : block h p = addW h v := by rw [block, hvE, ← hW]
          have hal := addW_len h v
          refine ab 1000 rfl trivial ?_
          refine S_while (α := Nat) (fun i => [(3, .ms 0 u 0 P.length 1 false), (6, .sl true true 1 (ints kTab)), (7, .ms 1 0 0 8 1 true), (8, .int .i64 (64 * m : Nat)), (17, .sl st fl 1 (ints v)), (25, .int .i64 (i : Nat))])
            (fun i => [bB u P ⟨false, some 5⟩, iB 0 ((addW h v).take i ++ h.drop i), iB x w, (b + 1, none), (c + 1, none)])
            (fun i => i ≤ 8) (fun i => 8 - i) 0 (Nat.zero_le _) (.cons rfl (.cons rfl (.cons rfl (.cons rfl (.cons rfl (.cons rfl (.nil _))))))) (by simp) ?_
          intro i hi
          refine ab 1000 rfl trivial ?_
          refine S_dec rfl (fun hlt => ?_) (fun hlt => ?_)
          · have hi8 : i < 8 := by omega
            have c1 : 0 ≤ (i : Int) ∧ (i : Int) < 8 := by omega
            have c2 : 8 - (i + 1) < 8 - i := by omega
            have c3 : AV.int .i64 (IntKind.i64.wrap ((i : Int) + 1)) = .int .i64 ((i + 1 : Nat) : Int) := ai64 rfl (by omega)
            have htk : ((addW h v).take i).length = i := by rw [List.length_take, hal]; omega
            have hil : i < h.length := by omega
            have hiv : i < v.length := by omega
            have hdr : h.drop i = h.getD i 0 :: h.drop (i + 1) := by
              rw [List.drop_eq_getElem_cons hil]
              simp [List.getD, hil]
            have hld : ((ints ((addW h v).take i ++ h.drop i)).drop (offN 0 (mulN (i : Int).toNat 1)))[0]? = some (.int .i64 (h.getD i 0 : Nat)) := by
              have hgi : ((addW h v).take i ++ h.drop i).getD i 0 = h.getD i 0 := by
                rw [hdr]
                have h2 := getD_mid ((addW h v).take i) (h.getD i 0) (h.drop (i + 1))
                rwa [htk] at h2
              rw [offN_eq, mulN_eq, Int.toNat_natCast, Nat.mul_one, Nat.zero_add, ints_ld (by rw [List.length_append, htk, List.length_drop]; omega), hgi]
            have hvg : (ints v)[(i : Int).toNat]? = some (.int .i64 (v.getD i 0 : Nat)) := by rw [Int.toNat_natCast]; exact ints_get hiv
            obtain ⟨hh1, hhle⟩ := sum2 (hh32.getD i) (lt2 (hv32.getD i))
            have hst : offN 0 (mulN (i : Int).toNat 1) + 1 ≤ (ints ((addW h v).take i ++ h.drop i)).length := by
              rw [offN_eq, mulN_eq, Int.toNat_natCast, ints_len, List.length_append, htk, List.length_drop]; omega
            refine ab 1000 rfl trivial ?_
            refine S_draw 12 [] [.top, .int .i64 (h.getD i 0 : Nat), .int .i64 (v.getD i 0 : Nat), .int .i64 ((h.getD i 0 + v.getD i 0) % M32 : Nat)] rfl rfl rfl rfl
              ⟨rfl, rfl, rfl, rfl, rfl, c1.1, c1.2, rfl, hld, rfl, rfl, rfl, c1.1, hvg, rfl, rfl, ⟨_, Wrap_ok _ hhle, .cons (by show Frz false _ (.int .i64 (IntKind.i64.wrap (((h.getD i 0 : Nat) : Int) + ((v.getD i 0 : Nat) : Int)))) _; rw [hh1]; exact .refl .int) (.nil _)⟩, trivial⟩ ?_
            refine S_index .top rfl rfl rfl ⟨rfl, c1.1, c1.2, trivial⟩ ?_
            refine S_store rfl rfl rfl ⟨rfl, rfl, rfl, hst, trivial⟩ ?_
            refine ab 1000 rfl trivial ?_
            refine S_round (i + 1) c2 hi8 (.cons rfl (.cons rfl (.cons rfl (.cons rfl (.cons rfl (.cons c3 (.nil _))))))) ?_
            show [bB u P _, (0, some (Box.cells (setRange (ints ((addW h v).take i ++ h.drop i)) (offN 0 (mulN (i : Int).toNat 1)) [.int .i64 ((h.getD i 0 + v.getD i 0) % M32 : Nat)]) ⟨false, none⟩)), iB x w, (b + 1, none), (c + 1, none)] = _
            rw [offN_eq, mulN_eq, Int.toNat_natCast, Nat.mul_one, Nat.zero_add]
            have hta : (addW h v).take (i + 1) = (addW h v).take i ++ [(h.getD i 0 + v.getD i 0) % M32] := by
              rw [List.take_succ_eq_append_getElem (by rw [hal]; exact hi8)]
              simp [addW]
            have hsf := set_fill ((addW h v).take i) 0 ((h.getD i 0 + v.getD i 0) % M32) (h.getD i 0) (h.drop (i + 1))
            rw [htk] at hsf
            show [_, (0, some (Box.cells (List.set (ints ((addW h v).take i ++ h.drop i)) i (.int .i64 ((h.getD i 0 + v.getD i 0) % M32 : Nat))) _)), _, _, _] = _
            have hse : List.set (ints ((addW h v).take i ++ h.drop i)) i (.int .i64 ((h.getD i 0 + v.getD i 0) % M32 : Nat)) = ints ((addW h v).take (i + 1) ++ h.drop (i + 1)) := by
              rw [hta, hdr, List.append_assoc, List.singleton_append, ← hsf]
              simp only [ints, List.map_set]
            rw [hse]; rfl
          · have hi8 : i = 8 := by omega
            subst hi8
            have hfin : (addW h v).take 8 ++ h.drop 8 = block h p := by
              rw [List.take_of_length_le (by omega), List.drop_of_length_le (by omega), List.append_nil, hblk]
            rw [hfin]
            have d1 : P.length - 64 * (m + 1) < P.length - 64 * m ∧ 64 * (m + 1) ≤ P.length := by omega
            have d2 : AV.int .i64 (IntKind.i64.wrap (((64 * m : Nat) : Int) + 64)) = .int .i64 ((64 * (m + 1) : Nat) : Int) := ai64 (by omega) (by omega)
            have d3 : P.length / 64 - m = (P.length / 64 - (m + 1)) + 1 := by omega
            have d4 : 64 * m + 64 = 64 * (m + 1) := by omega
            refine S_drop (id := 2) rfl ?_ ⟨_, _, .inl rfl⟩
            refine ab 1000 rfl trivial ?_
            refine S_round (m + 1, block h p, x, b + 1, c + 1) d1.1 ⟨d1.2, block_len _ _, block_lt _ _, ?_⟩ (.cons rfl (.cons rfl (.cons rfl (.cons d2 (.nil _))))) rfl
            rw [← hN, d3, blocks, block_take, List.drop_drop, d4, hp]
    · have hm64 : 64 * m = P.length := by omega
      have hH : h = hashOf s := by
        rw [← hN, show P.length / 64 - m = 0 by omega]; rfl
      subst hH
      obtain ⟨HL, hHL⟩ : ∃ HL, HL = hashOf s := ⟨_, rfl⟩
      have hsh : sha s = HL.flatMap hexW := by rw [hHL]; rfl
      have hHl : HL.length = 8 := by rw [hHL]; exact hashOf_len s
      have hH32 : W32 HL := by rw [hHL]; exact hashOf_lt s
      rw [hsh]
      rw [← hHL] at *
      have hxl : ∀ n, (hexW n).length = 8 := fun n => by simp [hexW]
      have hfl : ∀ l : List Nat, (l.flatMap hexW).length = 8 * l.length := by
        intro l
        induction l with
        | nil => rfl
        | cons a r ih => rw [List.flatMap_cons, List.length_append, hxl, ih, List.length_cons]; omega
      refine ab 1000 rfl trivial ?_
      refine S_while (α := Nat) (fun i => [(7, .ms 1 0 0 8 1 true), (26, .str ((HL.take i).flatMap hexW)), (27, .int .i64 (i : Nat))]) (fun i => [bB u P ⟨false, some 5⟩, iB 0 HL, (a, none), (b, none), (c, none)])
        (fun i => i ≤ 8) (fun i => 8 - i) 0 (Nat.zero_le _) (.cons rfl (.cons rfl (.cons rfl (.nil _)))) rfl ?_
      intro i hi
      refine ab 1000 rfl trivial ?_
      refine S_dec rfl (fun hlt => ?_) (fun hlt => ?_)
      · have hi8 : i < 8 := by omega
        obtain ⟨nn, hnn⟩ : ∃ nn, nn = HL.getD i 0 := ⟨_, rfl⟩
        have qn : nn < M32 := by rw [hnn]; exact hH32.getD i
        have htl : ((HL.take i).flatMap hexW).length = 8 * i := by rw [hfl, List.length_take]; omega
        refine ab 1000 rfl trivial ?_
        refine S_while (α := Nat) (fun j => [(7, .ms 1 0 0 8 1 true), (26, .str ((HL.take i).flatMap hexW ++ (hexW nn).take j)), (27, .int .i64 (i : Nat)), (28, .int .i64 (7 - (j : Int)))]) (fun j => [bB u P ⟨false, some 5⟩, iB 0 HL, (a, none), (b, none), (c, none)])
          (fun j => j ≤ 8) (fun j => 8 - j) 0 (Nat.zero_le _) (.cons rfl (.cons (by simp; rfl) (.cons rfl (.cons rfl (.nil _))))) rfl ?_
        intro j hj
        refine ab 1000 rfl trivial ?_
        refine S_dec rfl (fun hlt => ?_) (fun hlt => ?_)
        · have hj8 : j < 8 := by omega
          have c1 : 0 ≤ (i : Int) ∧ (i : Int) < 8 := by omega
          have c2 : 8 - (j + 1) < 8 - j := by omega
          have hw4 : IntKind.i64.wrap (4 * (7 - (j : Int))) = ((4 * (7 - j) : Nat) : Int) := w64 (by omega) (by omega)
          have c3 : AV.int .i64 (IntKind.i64.wrap (7 - (j : Int) - 1)) = .int .i64 (7 - ((j + 1 : Nat) : Int)) := ai64i (by omega) (by omega)
          have c4 : 4 * (7 - j) ≤ 62 := by omega
          have hp0 : ((2 ^ (4 * (7 - j)) : Nat) : Int) ≠ 0 := by have := Nat.two_pow_pos (4 * (7 - j)); omega
          have hld : ((ints HL).drop (offN 0 (mulN (i : Int).toNat 1)))[0]? = some (.int .i64 (nn : Nat)) := by
            rw [offN_eq, mulN_eq, Int.toNat_natCast, Nat.mul_one, Nat.zero_add, hnn, ints_ld (by omega)]
          have e16 : (2 : Nat) ^ (4 * (7 - j)) = 16 ^ (7 - j) := by rw [show (16 : Nat) = 2 ^ 4 from rfl, ← Nat.pow_mul]
          have hdv : IntKind.i64.wrap ((nn : Int).tdiv ((2 ^ (4 * (7 - j)) : Nat) : Int)) = ((nn / 16 ^ (7 - j) : Nat) : Int) := by
            rw [← e16]; exact div32 qn
          have hm16 : (((nn / 16 ^ (7 - j) : Nat) : Int)).tmod 16 = ((nn / 16 ^ (7 - j) % 16 : Nat) : Int) := rfl
          have hlen : (((((HL.take i).flatMap hexW ++ (hexW nn).take j).length + 1 : Nat)) : Int) ≤ 9223372036854775807 := by
            rw [List.length_append, htl, List.length_take, hxl]; omega
          have hnx : (hexW nn).take (j + 1) = (hexW nn).take j ++ [hexC (nn / 16 ^ (7 - j) % 16)] := by
            rw [List.take_succ_eq_append_getElem (by rw [hxl]; exact hj8)]
            simp [hexW]
          refine ab 1000 rfl trivial ?_
          refine S_draw 13 [] [.top, .int .i64 (nn : Nat), .int .i64 ((2 ^ (4 * (7 - j)) : Nat) : Int), .str [hexC (nn / 16 ^ (7 - j) % 16)]] rfl rfl rfl rfl
            ⟨rfl, rfl, rfl, rfl, c1.1, c1.2, rfl, hld, rfl, rfl, ⟨_, Pow2_ok (4 * (7 - j)) c4, .cons (by show Frz false _ (.int .i64 (IntKind.i64.wrap (4 * (7 - (j : Int))))) _; rw [hw4]; exact .refl .int) (.nil _)⟩, rfl, hp0, rfl, by decide, ⟨_, HexDigit_ok (nn / 16 ^ (7 - j) % 16) (Nat.mod_lt _ (by decide)), .cons (by show Frz false _ (.int .i64 ((IntKind.i64.wrap ((nn : Int).tdiv ((2 ^ (4 * (7 - j)) : Nat) : Int))).tmod 16)) _; rw [hdv, hm16]; exact .refl .int) (.nil _)⟩, rfl, hlen, rfl, trivial⟩ ?_
          refine ab 1000 rfl trivial ?_
          exact S_round (j + 1) c2 hj8 (.cons rfl (.cons (by rw [hnx, ← List.append_assoc]; rfl) (.cons rfl (.cons c3 (.nil _))))) rfl
        · have hj8 : j = 8 := by omega
          subst hj8
          have hti : HL.take (i + 1) = HL.take i ++ [nn] := by
            rw [List.take_succ_eq_append_getElem (by omega), hnn]
            simp [List.getD, show i < HL.length by omega]
          have c3 : AV.int .i64 (IntKind.i64.wrap ((i : Int) + 1)) = .int .i64 ((i + 1 : Nat) : Int) := ai64 rfl (by omega)
          refine ab 1000 rfl trivial ?_
          refine S_round (i + 1) (by show 8 - (i + 1) < 8 - i; omega) hi8 (.cons rfl (.cons ?_ (.cons c3 (.nil _)))) rfl
          show AV.str ((HL.take i).flatMap hexW ++ (hexW nn).take 8) = .str ((HL.take (i + 1)).flatMap hexW)
          rw [hti, List.flatMap_append, List.take_of_length_le (l := hexW nn) (by rw [hxl]; exact Nat.le_refl _)]
          simp
      · have hi8 : i = 8 := by omega
        subst hi8
        refine ab 1000 rfl trivial ?_
        refine S_retc .str rfl trivial ?_
        show AV.str ((HL.take 8).flatMap hexW) = _
        rw [List.take_of_length_le (by omega)]
end Go.Proofs.YtjcjaonfhlfnaaaGreatDoor
end
section
set_option linter.unusedVariables false
set_option linter.unusedSimpArgs false
set_option maxRecDepth 20000
namespace Go.Proofs.YtjcjaonfhlfnaaaGreatDoor
open Go Go.Ab
theorem textIs_ok (s want : List UInt8) (e w : Nat) : Calc cx 9 [.str s, .int .i64 e, .int .i64 w, .str want] (.bool (e == w && s == (if w = 0 then want else []))) :=
  pure_intro (fun a w => Tryz.call9 a w) Tryz.func9 rfl Tryz.ntmps9 rfl .bool fun B => by
    refine ab 1000 rfl trivial ?_
    have fin : ∀ (want' : List UInt8) (B : Bool), ((e : Int) == (w : Int)) = (e == w) := by
      intro _ _
      by_cases h : e = w
      · subst h; simp
      · have : (e : Int) ≠ w := by omega
        rw [beq_eq_false_iff_ne.2 this, beq_eq_false_iff_ne.2 h]
    refine S_bne rfl (fun h => ?_) (fun h => ?_)
    · have hw : w ≠ 0 := by omega
      rw [if_neg hw]
      refine ab 1000 rfl trivial ?_
      refine S_guard rfl rfl rfl rfl (fun hg => ?_) (fun hg => ?_)
      · refine ab 1000 rfl trivial ?_
        refine S_retc .bool rfl trivial ?_
        rw [← fin [] true, hg]; simp; rfl
      · refine ab 1000 rfl trivial ?_
        refine S_retc .bool rfl trivial ?_
        rw [← fin [] true, hg]; rfl
    · have hw : w = 0 := by omega
      rw [if_pos hw]
      refine ab 1000 rfl trivial ?_
      refine S_guard rfl rfl rfl rfl (fun hg => ?_) (fun hg => ?_)
      · refine ab 1000 rfl trivial ?_
        refine S_retc .bool rfl trivial ?_
        rw [← fin [] true, hg]; rfl
      · refine ab 1000 rfl trivial ?_
        refine S_retc .bool rfl trivial ?_
        rw [← fin [] true, hg]; rfl
end Go.Proofs.YtjcjaonfhlfnaaaGreatDoor
end
section
set_option linter.unusedVariables false
set_option linter.unusedSimpArgs false
set_option maxRecDepth 20000
namespace Go.Proofs.YtjcjaonfhlfnaaaGreatDoor
open Go Go.Ab
theorem bBegun_ok : Calc cx 8 [] (.bool true) := mxBegun_ok
theorem packA_sz {x : ActV} (he : actE x = 0) : (packA x).length ≤ 20000000 := by
  obtain ⟨h1, h2, h3, h4, h5, m, hm, hm1⟩ := actE_fit he
  have l1 := packTs_bd h1 h2
  have l2 : (packT x.inp).length ≤ 74 := by have := packN_len 9 x.inp.length; rw [packT, List.length_append]; omega
  have l3 := packTs_bd h4 (fun s hs => by have := h5 s hs; omega)
  have l4 := packN_len 9 x.fuel.toNat
  simp only [packA, List.length_append]; omega
def keyE (a : ActV) : List UInt8 := if actE a = 0 then sha (packA a) else []
theorem Key_ok {st : Bool} (a : ActV) (ha : ActOk a) : Calc cx 4 [actAV st a] (.tup [.str (keyE a), .int .i64 (actE a : Nat)]) :=
  pure_intro (fun a w => Tryz.call4 a w) Tryz.func4 rfl Tryz.ntmps4 rfl (.tup (by intro x hx; simp at hx; rcases hx with rfl | rfl; exact .str; exact .int)) fun B => by
    have lend : ∀ (σ : Heap), Frz false σ (actAV st a) (actAV st a) := fun σ => .refl (actAV_free (fun h => by cases h) a)
    unfold keyE
    obtain ⟨c, i, o, f⟩ := a
    refine ab 1000 rfl ⟨rfl, trivial⟩ ?_
    refine S_pure rfl rfl rfl (Action_ok (st := st) ⟨c, i, o, f⟩ ha) (.cons (lend _) (.nil _)) ?_
    refine ab 1000 rfl trivial ?_
    refine S_bne rfl (fun hc => ?_) (fun hc => ?_)
    · have hc : actE ⟨c, i, o, f⟩ ≠ 0 := by have : ((actE ⟨c, i, o, f⟩ : Nat) : Int) ≠ 0 := hc; omega
      rw [if_neg hc]
      refine ab 1000 rfl trivial ?_
      exact S_retc (.tup (by intro x hx; simp at hx; rcases hx with rfl | rfl; exact .str; exact .int)) rfl trivial rfl
    · have hc : actE ⟨c, i, o, f⟩ = 0 := by
        have : ((actE ⟨c, i, o, f⟩ : Nat) : Int) = 0 := hc
        omega
      have hsz := packA_sz hc
      simp only [hc, if_true]
      refine ab 1000 rfl trivial ?_
      refine S_pure rfl rfl rfl (Sum_ok (packA ⟨c, i, o, f⟩) (by omega)) (.cons (.refl .str) (.nil _)) ?_
      refine ab 1000 rfl trivial ?_
      exact S_retc (.tup (by intro x hx; simp at hx; rcases hx with rfl | rfl; exact .str; exact .int)) rfl trivial rfl
theorem BuildKeys_ok (a : ActV) (hk : avB (actAV true a) ≤ 1048576) : Calc cx 3 [actAV true a] (.bool true) :=
  pure_intro (fun a w => Tryz.call3 a w) Tryz.func3 rfl Tryz.ntmps3 rfl .bool fun B => by
    have ha := actOk_of hk (by decide)
    have lend : ∀ (σ : Heap), Frz false σ (actAV true a) (actAV true a) := fun σ => .refl (actAV_free (fun _ => rfl) a)
    obtain ⟨e, he⟩ : ∃ e, actE a = e := ⟨_, rfl⟩
    obtain ⟨k, hkk⟩ : ∃ k, keyE a = k := ⟨_, rfl⟩
    have hK := Key_ok (st := true) a ha
    have hC := CheckAction_ok (st := true) a ha
    have hP := fun h => PackAction_ok (st := true) a (actE_fit h)
    have hS := fun h => SumR_ok (packA a) (Nat.le_trans (packA_sz h) (by decide))
    unfold keyE at hkk
    rw [he] at hkk hC hP hS hK
    rw [show keyE a = k by unfold keyE; rw [he]; exact hkk] at hK
    obtain ⟨c, i, o, f⟩ := a
    refine ab 1000 rfl ⟨rfl, trivial⟩ ?_
    refine S_pure rfl rfl rfl hK (.cons (lend _) (.nil _)) ?_
    refine ab 1000 rfl ⟨rfl, trivial⟩ ?_
    refine S_pure rfl rfl rfl hC (.cons (lend _) (.nil _)) ?_
    refine ab 1000 rfl trivial ?_
    refine S_beq rfl (fun hc => ?_) (fun hc => ?_)
    · obtain rfl : e = 0 := by have : (e : Int) = 0 := hc; omega
      rw [if_pos rfl] at hkk
      subst hkk
      refine ab 1000 rfl ⟨rfl, trivial⟩ ?_
      refine S_pure rfl rfl rfl (hP rfl) (.cons (lend _) (.nil _)) ?_
      refine ab 1000 rfl trivial ?_
      refine S_pure rfl rfl rfl (hS rfl) (.cons (.refl .str) (.nil _)) ?_
      refine ab 1000 rfl trivial ?_
      refine S_pure rfl rfl rfl bBegun_ok (.nil _) ?_
      refine ab 1000 rfl trivial ?_
      refine S_guard rfl rfl rfl rfl (fun _ => ?_) (fun h => by cases h)
      refine ab 1000 rfl trivial ?_
      refine S_pure rfl rfl rfl (textIs_ok (sha (packA ⟨c, i, o, f⟩)) (sha (packA ⟨c, i, o, f⟩)) 0 0) (.cons (.refl .str) (.cons (.refl .int) (.cons (.refl .int) (.cons (.refl .str) (.nil _))))) ?_
      refine ab 1000 rfl trivial ?_
      refine S_retc .bool rfl trivial ?_
      show AV.bool _ = _
      simp
    · have hc : e ≠ 0 := by have : (e : Int) ≠ 0 := hc; omega
      rw [if_neg hc] at hkk
      subst hkk
      refine ab 1000 rfl trivial ?_
      refine S_pure rfl rfl rfl bBegun_ok (.nil _) ?_
      refine ab 1000 rfl trivial ?_
      refine S_guard rfl rfl rfl rfl (fun _ => ?_) (fun h => by cases h)
      refine ab 1000 rfl trivial ?_
      refine S_pure rfl rfl rfl (textIs_ok [] [] e e) (.cons (.refl .str) (.cons (.refl .int) (.cons (.refl .int) (.cons (.refl .str) (.nil _))))) ?_
      refine ab 1000 rfl trivial ?_
      refine S_retc .bool rfl trivial ?_
      show AV.bool _ = _
      simp
end Go.Proofs.YtjcjaonfhlfnaaaGreatDoor
end
section
set_option linter.unusedVariables false
set_option linter.unusedSimpArgs false
set_option maxRecDepth 20000
namespace Go.Proofs.YtjcjaonfhlfnaaaGreatDoor
open Go Go.Ab
theorem open_l {H : Type} {d : DataW H} {a : AV} (h : RdD Tryz.prog 22 d a) : ∃ l : List (List UInt8), a = .sl true false 1 (texts l) := by
  obtain ⟨ds, xs, rfl, hl, hm, hall, _⟩ := h.inv_sl Tryz.underlying22
  obtain ⟨ys, rfl, hy, hg⟩ := RdD.each AV.str (fun _ _ => True) hl hall (fun d x h => by
    obtain ⟨s, _, rfl, _⟩ := h.inv_str Tryz.underlying9
    exact ⟨s, rfl, trivial⟩)
  have hc : Tryz.prog.cellsOf 9 = 1 := by kernel_rfl
  exact ⟨ys, by rw [hc]; rfl⟩
end Go.Proofs.YtjcjaonfhlfnaaaGreatDoor
end
section
set_option linter.unusedVariables false
set_option linter.unusedSimpArgs false
set_option maxRecDepth 20000
namespace Go.Proofs.YtjcjaonfhlfnaaaGreatDoor
open Go Go.Ab
theorem open_A {H : Type} {d : DataW H} {a : AV} (h : RdD Tryz.prog 24 d a) : ∃ x : ActV, a = actAV true x := by
  obtain ⟨ds, xs, rfl, rfl, hall⟩ := h.inv_st Tryz.underlying24
  obtain ⟨d0, ds, x0, xs, rfl, rfl, h0, hall⟩ := hall.cons
  obtain ⟨d1, ds, x1, xs, rfl, rfl, h1, hall⟩ := hall.cons
  obtain ⟨d2, ds, x2, xs, rfl, rfl, h2, hall⟩ := hall.cons
  obtain ⟨d3, ds, x3, xs, rfl, rfl, h3, hall⟩ := hall.cons
  obtain ⟨rfl, rfl⟩ := hall.nil
  obtain ⟨l0, rfl⟩ := open_l h0
  obtain ⟨s1, rfl, rfl, _⟩ := h1.inv_str Tryz.underlying9
  obtain ⟨l2, rfl⟩ := open_l h2
  obtain ⟨n3, rfl, rfl, _⟩ := h3.inv_int Tryz.underlying3
  exact ⟨⟨l0, s1, l2, n3⟩, rfl⟩
end Go.Proofs.YtjcjaonfhlfnaaaGreatDoor
end
