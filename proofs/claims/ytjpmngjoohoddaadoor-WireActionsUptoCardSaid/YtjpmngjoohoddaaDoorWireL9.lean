/-
  The laws WireActions, WireReadActions, WireBackAction.
-/
import Derived.Test.YtjpmngjoohoddaaDoorActD
import Derived.Test.YtjpmngjoohoddaaDoorRefI
set_option linter.unusedVariables false
set_option linter.unusedSimpArgs false
set_option maxRecDepth 20000
namespace Go.Proofs.YtjpmngjoohoddaaDoor
open Go Go.Ab

theorem rAct_pack (x : ActV) (rest : List UInt8) (he : actE x = 0) : rAct (packA x ++ rest) = some (x, rest) := by
  obtain ⟨h1, h2, h3, h4, h5, m, hm, hm1⟩ := actE_fit he
  obtain ⟨c, i, o, f⟩ := x
  simp only at h1 h2 h3 h4 h5 hm
  subst hm
  have e : packA ⟨c, i, o, m⟩ ++ rest = packTs c ++ (packT i ++ (packTs o ++ (packN 9 m ++ rest))) := by simp [packA]
  rw [e]
  unfold rAct
  rw [rTexts_pack c _ (by omega) h2]
  simp only
  rw [rText_pack i _ (by omega)]
  simp only
  rw [rTexts_pack o _ (by omega) (fun s hs => by have := h5 s hs; omega)]
  simp only
  rw [rNum_pack m _ hm1]

theorem readA_pack (x : ActV) (he : actE x = 0) : readA (packA x) = (x, 0) := by
  have := rAct_pack x [] he
  rw [List.append_nil] at this
  simp only [readA, this, he, and_self, if_true]

theorem packA_inj {a b : ActV} (ha : actE a = 0) (hb : actE b = 0) (h : packA a = packA b) : a = b := by
  have h1 := readA_pack a ha
  rw [h, readA_pack b hb] at h1
  exact (congrArg Prod.fst h1).symm

theorem packA_len {x : ActV} (he : actE x = 0) : (packA x).length ≤ 20000000 := by
  obtain ⟨h1, h2, h3, h4, h5, m, hm, hm1⟩ := actE_fit he
  have l1 := packTs_bd h1 h2
  have l2 : (packT x.inp).length ≤ 74 := by have := packN_len 9 x.inp.length; rw [packT, List.length_append]; omega
  have l3 := packTs_bd h4 (fun s hs => by have := h5 s hs; omega)
  have l4 := packN_len 9 x.fuel.toNat
  simp only [packA, List.length_append]; omega

theorem WireActions_ok (a : ActV) (hk : avB (actAV true a) ≤ 1048576) : Calc cx 4 [actAV true a] (.bool true) :=
  pure_intro (fun a w => Tryd.call4 a w) Tryd.func4 rfl Tryd.ntmps4 rfl .bool fun B => by
    have ha := actOk_of hk (by decide)
    have lend : ∀ (σ : Heap), Frz false σ (actAV true a) (actAV true a) := fun σ => .refl (actAV_free (fun _ => rfl) a)
    obtain ⟨c, i, o, f⟩ := a
    refine ab 1000 rfl ⟨rfl, trivial⟩ ?_
    refine S_pure rfl rfl rfl (Action_ok (st := true) ⟨c, i, o, f⟩ ha) (.cons (lend _) (.nil _)) ?_
    refine ab 1000 rfl ⟨rfl, trivial⟩ ?_
    refine S_pure rfl rfl rfl (CheckAction_ok (st := true) ⟨c, i, o, f⟩ ha) (.cons (lend _) (.nil _)) ?_
    refine ab 1000 rfl trivial ?_
    refine S_beq rfl (fun hc => ?_) (fun hc => ?_)
    · have hc : actE ⟨c, i, o, f⟩ = 0 := by have : ((actE ⟨c, i, o, f⟩ : Nat) : Int) = 0 := hc; omega
      rw [hc, if_pos rfl]
      refine ab 1000 rfl ⟨rfl, trivial⟩ ?_
      refine S_pure rfl rfl rfl (PackAction_ok (st := true) ⟨c, i, o, f⟩ (actE_fit hc)) (.cons (lend _) (.nil _)) ?_
      refine ab 1000 rfl trivial ?_
      refine S_pure rfl rfl rfl wireBegun_ok (.nil _) ?_
      refine ab 1000 rfl trivial ?_
      refine S_guard rfl rfl rfl rfl (fun _ => ?_) (fun h => by cases h)
      refine ab 1000 rfl trivial ?_
      refine S_pure rfl rfl rfl (textIs_ok (packA ⟨c, i, o, f⟩) (packA ⟨c, i, o, f⟩) 0 0) (.cons (.refl .str) (.cons (.refl .int) (.cons (.refl .int) (.cons (.refl .str) (.nil _))))) ?_
      refine ab 1000 rfl trivial ?_
      refine S_retc .bool rfl trivial ?_
      show AV.bool _ = _
      simp
    · have hc : actE ⟨c, i, o, f⟩ ≠ 0 := by have : ((actE ⟨c, i, o, f⟩ : Nat) : Int) ≠ 0 := hc; omega
      rw [if_neg hc]
      generalize actE ⟨c, i, o, f⟩ = e at *
      refine ab 1000 rfl trivial ?_
      refine S_pure rfl rfl rfl wireBegun_ok (.nil _) ?_
      refine ab 1000 rfl trivial ?_
      refine S_guard rfl rfl rfl rfl (fun _ => ?_) (fun h => by cases h)
      refine ab 1000 rfl trivial ?_
      refine S_pure rfl rfl rfl (textIs_ok [] [] e e) (.cons (.refl .str) (.cons (.refl .int) (.cons (.refl .int) (.cons (.refl .str) (.nil _))))) ?_
      refine ab 1000 rfl trivial ?_
      refine S_retc .bool rfl trivial ?_
      show AV.bool _ = _
      simp

theorem WireReadActions_ok (s : List UInt8) (a : ActV) (hs : s.length ≤ 1048576) (hk : avB (actAV true a) ≤ 1048576) : Calc cx 5 [.str s, actAV true a] (.bool true) :=
  pure_intro (fun a w => Tryd.call5 a w) Tryd.func5 rfl Tryd.ntmps5 rfl .bool fun B => by
    have ha := actOk_of hk (by decide)
    have lend : ∀ (σ : Heap) (a : ActV), Frz false σ (actAV true a) (actAV true a) := fun σ a => .refl (actAV_free (fun _ => rfl) a)
    have lz : ∀ (σ : Heap), Frz false σ (.agg [.nils, .str [], .nils, .int .i64 0]) (actAV true act0) := fun σ => .agg rfl (fun i h h' => by
      match i, h, h' with
      | 0, _, _ => exact .nils
      | 1, _, _ => exact .refl .str
      | 2, _, _ => exact .nils
      | 3, _, _ => exact .refl .int)
    refine ab 1000 rfl trivial ?_
    have hR := ReadAction_ok s (by omega)
    generalize hx : readA s = x at hR
    obtain ⟨⟨xc, xi, xo, xf⟩, e⟩ := x
    obtain ⟨c, i, o, f⟩ := a
    refine S_pure rfl rfl rfl hR (.cons (.refl .str) (.nil _)) ?_
    refine ab 1000 rfl ⟨lble rfl, rfl, trivial⟩ ?_
    refine S_pure rfl rfl rfl wireBegun_ok (.nil _) ?_
    refine ab 1000 rfl trivial ?_
    refine S_guard rfl rfl rfl rfl (fun h => by cases h) (fun _ => ?_)
    refine ab 1000 rfl trivial ?_
    rcases readA_ok hx with ⟨rfl, hc, hp⟩ | ⟨rfl, h0⟩
    · have fit : ActOk ⟨xc, xi, xo, xf⟩ := by have := readA_fit (s := s) (by omega); rwa [hx] at this
      refine S_cond rfl (fun _ => ?_) (fun h => by cases h)
      refine ab 1000 rfl trivial ?_
      refine S_pure rfl rfl rfl wireBegun_ok (.nil _) ?_
      refine ab 1000 rfl trivial ?_
      refine S_guard rfl rfl rfl rfl (fun _ => ?_) (fun h => by cases h)
      refine ab 1000 rfl ⟨rfl, trivial⟩ ?_
      have hC := CheckAction_ok (st := true) ⟨xc, xi, xo, xf⟩ fit
      rw [hc] at hC
      refine S_pure rfl rfl rfl hC (.cons (lend _ _) (.nil _)) ?_
      refine ab 1000 rfl trivial ?_
      refine S_guard rfl rfl rfl rfl (fun _ => ?_) (fun h => by cases h)
      refine ab 1000 rfl ⟨rfl, trivial⟩ ?_
      refine S_pure rfl rfl rfl (PackAction_ok (st := true) ⟨xc, xi, xo, xf⟩ (actE_fit hc)) (.cons (lend _ _) (.nil _)) ?_
      refine ab 1000 rfl trivial ?_
      refine S_retc .bool rfl trivial ?_
      show AV.bool (packA ⟨xc, xi, xo, xf⟩ == s) = _
      rw [hp]; simp
    · refine S_cond rfl (fun h => by cases h) (fun _ => ?_)
      refine ab 1000 rfl trivial ?_
      refine S_guard rfl rfl rfl rfl (fun _ => ?_) (fun h => by cases h)
      refine ab 1000 rfl ⟨rfl, trivial⟩ ?_
      have hS := SameAction_ok (st := true) (st' := true) act0 act0 ⟨Nat.zero_le _, Nat.zero_le _, Nat.zero_le _, by intro t h; simp [act0] at h⟩ ⟨Nat.zero_le _, Nat.zero_le _, Nat.zero_le _, by intro t h; simp [act0] at h⟩
      rw [(actBeq act0 act0).2 rfl] at hS
      refine S_pure rfl rfl rfl hS (.cons (by rw [← h0]; exact lend _ _) (.cons (lz _) (.nil _))) ?_
      refine ab 1000 rfl trivial ?_
      refine S_guard rfl rfl rfl rfl (fun _ => ?_) (fun h => by cases h)
      refine ab 1000 rfl ⟨rfl, trivial⟩ ?_
      refine S_pure rfl rfl rfl (CheckAction_ok (st := true) ⟨c, i, o, f⟩ ha) (.cons (lend _ _) (.nil _)) ?_
      refine ab 1000 rfl trivial ?_
      by_cases hc : actE ⟨c, i, o, f⟩ = 0
      · rw [hc]
        refine S_guard rfl rfl rfl rfl (fun h => by cases h) (fun _ => ?_)
        refine ab 1000 rfl ⟨rfl, trivial⟩ ?_
        refine S_pure rfl rfl rfl (PackAction_ok (st := true) ⟨c, i, o, f⟩ (actE_fit hc)) (.cons (lend _ _) (.nil _)) ?_
        refine ab 1000 rfl trivial ?_
        refine S_retc .bool rfl trivial ?_
        have hne : packA ⟨c, i, o, f⟩ ≠ s := by
          intro h
          have h1 := readA_pack ⟨c, i, o, f⟩ hc
          rw [h, hx] at h1
          cases h1
        show AV.bool (!(packA ⟨c, i, o, f⟩ == s)) = _
        rw [beq_eq_false_iff_ne.2 hne]; rfl
      · refine S_guard rfl rfl rfl rfl (fun _ => ?_) (fun h => ?_)
        · refine ab 1000 rfl trivial ?_
          exact S_retc .bool rfl trivial rfl
        · exfalso
          have h : (((actE ⟨c, i, o, f⟩ : Nat) : Int) != 0) = false := h
          exact hc (by have : ((actE ⟨c, i, o, f⟩ : Nat) : Int) = 0 := by simpa using h
                       omega)

theorem WireBackAction_ok (a b : ActV) (hk : avB (actAV true a) ≤ 1048576) (hk' : avB (actAV true b) ≤ 1048576) : Calc cx 6 [actAV true a, actAV true b] (.bool true) :=
  pure_intro (fun a w => Tryd.call6 a w) Tryd.func6 rfl Tryd.ntmps6 rfl .bool fun B => by
    have ha := actOk_of hk (by decide)
    have hb := actOk_of hk' (by decide)
    have lend : ∀ (σ : Heap) (a : ActV), Frz false σ (actAV true a) (actAV true a) := fun σ a => .refl (actAV_free (fun _ => rfl) a)
    obtain ⟨c, i, o, f⟩ := a
    obtain ⟨c', i', o', f'⟩ := b
    refine ab 1000 rfl trivial ?_
    refine S_pure rfl rfl rfl wireBegun_ok (.nil _) ?_
    refine ab 1000 rfl trivial ?_
    refine S_cond rfl (fun h => by cases h) (fun _ => ?_)
    refine ab 1000 rfl ⟨rfl, trivial⟩ ?_
    refine S_pure rfl rfl rfl (Action_ok (st := true) ⟨c, i, o, f⟩ ha) (.cons (lend _ _) (.nil _)) ?_
    by_cases hc : actE ⟨c, i, o, f⟩ = 0
    · rw [hc, if_pos rfl]
      refine ab 1000 rfl trivial ?_
      refine S_cond rfl (fun h => by cases h) (fun _ => ?_)
      refine ab 1000 rfl trivial ?_
      have hlen := packA_len hc
      have hR := ReadAction_ok (packA ⟨c, i, o, f⟩) (by omega)
      rw [readA_pack _ hc] at hR
      refine S_pure rfl rfl rfl hR (.cons (.refl .str) (.nil _)) ?_
      refine ab 1000 rfl ⟨rfl, lble rfl, rfl, trivial⟩ ?_
      refine S_pure rfl rfl rfl (Action_ok (st := true) ⟨c', i', o', f'⟩ hb) (.cons (lend _ _) (.nil _)) ?_
      refine ab 1000 rfl trivial ?_
      refine S_guard rfl rfl rfl rfl (fun _ => ?_) (fun h => by cases h)
      refine ab 1000 rfl ⟨rfl, rfl, trivial⟩ ?_
      have hS := SameAction_ok (st := true) (st' := true) ⟨c, i, o, f⟩ ⟨c, i, o, f⟩ ha ha
      rw [(actBeq _ _).2 rfl] at hS
      refine S_pure rfl rfl rfl hS (.cons (lend _ _) (.cons (lend _ _) (.nil _))) ?_
      refine ab 1000 rfl trivial ?_
      refine S_guard rfl rfl rfl rfl (fun _ => ?_) (fun h => by cases h)
      by_cases hd : actE ⟨c', i', o', f'⟩ = 0
      · rw [hd, if_pos rfl]
        refine ab 1000 rfl trivial ?_
        refine S_guard rfl rfl rfl rfl (fun h => by cases h) (fun _ => ?_)
        refine ab 1000 rfl ⟨rfl, rfl, trivial⟩ ?_
        refine S_pure rfl rfl rfl (SameAction_ok (st := true) (st' := true) ⟨c, i, o, f⟩ ⟨c', i', o', f'⟩ ha hb) (.cons (lend _ _) (.cons (lend _ _) (.nil _))) ?_
        refine ab 1000 rfl trivial ?_
        refine S_retc .bool rfl trivial ?_
        show AV.bool ((packA ⟨c, i, o, f⟩ == packA ⟨c', i', o', f'⟩) == ((c == c') && (i == i') && (o == o') && (f == f'))) = _
        by_cases he : (⟨c, i, o, f⟩ : ActV) = ⟨c', i', o', f'⟩
        · have h2 := (actBeq ⟨c, i, o, f⟩ ⟨c', i', o', f'⟩).2 he
          simp only at h2
          rw [h2, he]; simp
        · have h2 : ((c == c') && (i == i') && (o == o') && (f == f')) = false := by
            rw [← Bool.not_eq_true]; exact fun h => he ((actBeq ⟨c, i, o, f⟩ ⟨c', i', o', f'⟩).1 h)
          rw [beq_eq_false_iff_ne.2 (fun h => he (packA_inj hc hd h)), h2]; rfl
      · rw [if_neg hd]
        generalize actE ⟨c', i', o', f'⟩ = e at *
        have hne : (((e : Nat) : Int) != 0) = true := by simp; omega
        refine ab 1000 rfl trivial ?_
        refine S_guard rfl rfl rfl rfl (fun _ => ?_) (fun h => absurd (h.symm.trans hne) (by decide))
        refine ab 1000 rfl trivial ?_
        exact S_retc .bool rfl trivial rfl
    · rw [if_neg hc]
      generalize actE ⟨c, i, o, f⟩ = e at *
      have hne : (((e : Nat) : Int) != 0) = true := by simp; omega
      refine ab 1000 rfl trivial ?_
      refine S_cond rfl (fun _ => ?_) (fun h => absurd (h.symm.trans hne) (by decide))
      refine ab 1000 rfl trivial ?_
      exact S_retc .bool rfl trivial rfl

end Go.Proofs.YtjpmngjoohoddaaDoor
