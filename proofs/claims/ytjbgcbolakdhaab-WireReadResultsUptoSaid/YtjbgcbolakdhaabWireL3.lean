/-
  The laws WireResults, WireReadResults, WireBackResult.
-/
import Derived.Test.YtjbgcbolakdhaabWireS
import Derived.Test.YtjbgcbolakdhaabRefI
set_option linter.unusedVariables false
set_option linter.unusedSimpArgs false
set_option maxRecDepth 20000
namespace Go.Proofs.Ytjbgcbolakdhaab
open Go Go.Ab

theorem WireResults_ok (r : ResV) (hs : r.out.length ≤ 9223372036854775806) : Calc cx 6 [resAV r] (.bool true) :=
  pure_intro (fun a w => Try.call6 a w) Try.func6 rfl Try.ntmps6 rfl .bool fun B => by
    have lend : ∀ σ : Heap, Frz false σ (resAV r) (resAV r) := fun σ => .refl (resAV_free r)
    refine ab 1000 rfl ⟨rfl, trivial⟩ ?_
    refine S_pure rfl rfl rfl (Result_ok r hs) (.cons (lend _) (.nil _)) ?_
    refine ab 1000 rfl ⟨rfl, trivial⟩ ?_
    refine S_pure rfl rfl rfl (CheckResult_ok r hs) (.cons (lend _) (.nil _)) ?_
    refine ab 1000 rfl trivial ?_
    refine S_beq rfl (fun hc => ?_) (fun hc => ?_)
    · have hc : resE r = 0 := by omega
      rw [hc, if_pos rfl]
      refine ab 1000 rfl ⟨rfl, trivial⟩ ?_
      refine S_pure rfl rfl rfl (PackResult_ok r hc) (.cons (lend _) (.nil _)) ?_
      refine ab 1000 rfl trivial ?_
      refine S_pure rfl rfl rfl wireBegun_ok (.nil _) ?_
      refine ab 1000 rfl trivial ?_
      refine S_guard rfl rfl rfl rfl (fun _ => ?_) (fun h => by cases h)
      refine ab 1000 rfl trivial ?_
      refine S_pure rfl rfl rfl (textIs_ok (packR r) (packR r) 0 0) (.cons (.refl .str) (.cons (.refl .int) (.cons (.refl .int) (.cons (.refl .str) (.nil _))))) ?_
      refine ab 1000 rfl trivial ?_
      refine S_retc .bool rfl trivial ?_
      show AV.bool _ = _
      simp
    · have hc : resE r ≠ 0 := by omega
      rw [if_neg hc]
      generalize resE r = e at *
      refine ab 1000 rfl trivial ?_
      refine S_pure rfl rfl rfl wireBegun_ok (.nil _) ?_
      refine ab 1000 rfl trivial ?_
      refine S_guard rfl rfl rfl rfl (fun _ => ?_) (fun h => by cases h)
      refine ab 1000 rfl trivial ?_
      refine S_pure rfl rfl rfl (textIs_ok [] [] e e) (.cons (.refl .str) (.cons (.refl .int) (.cons (.refl .int) (.cons (.refl .str) (.nil _))))) ?_
      refine ab 1000 rfl trivial ?_
      refine S_retc .bool rfl trivial ?_
      show AV.bool _ = _
      simp

theorem cmpRes : cmpOk cx.P 38 = true := by kernel_rfl

theorem WireReadResults_ok (s : List UInt8) (r : ResV) (hl : s.length ≤ 1048576) (hs : r.out.length ≤ 1048576) : Calc cx 7 [.str s, resAV r] (.bool true) :=
  pure_intro (fun a w => Try.call7 a w) Try.func7 rfl Try.ntmps7 rfl .bool fun B => by
    have lend : ∀ (x : ResV) (σ : Heap), Frz false σ (resAV x) (resAV x) := fun x σ => .refl (resAV_free x)
    refine ab 1000 rfl trivial ?_
    have hR := ReadResult_ok s (by omega)
    generalize hx : readR s = p at hR
    obtain ⟨x, e⟩ := p
    refine S_pure rfl rfl rfl hR (.cons (.refl .str) (.nil _)) ?_
    refine ab 1000 rfl ⟨lble rfl, rfl, trivial⟩ ?_
    refine S_pure rfl rfl rfl wireBegun_ok (.nil _) ?_
    refine ab 1000 rfl trivial ?_
    refine S_guard rfl rfl rfl rfl (fun h => by cases h) (fun _ => ?_)
    refine ab 1000 rfl trivial ?_
    rcases readR_ok hx with ⟨rfl, hc, hp⟩ | ⟨rfl, rfl⟩
    · obtain ⟨_, _, _, hol⟩ := resE_ok hc
      refine S_cond rfl (fun _ => ?_) (fun h => by cases h)
      refine ab 1000 rfl trivial ?_
      refine S_pure rfl rfl rfl wireBegun_ok (.nil _) ?_
      refine ab 1000 rfl trivial ?_
      refine S_guard rfl rfl rfl rfl (fun _ => ?_) (fun h => by cases h)
      refine ab 1000 rfl ⟨rfl, trivial⟩ ?_
      refine S_pure rfl rfl rfl (CheckResult_ok x (by omega)) (.cons (lend x _) (.nil _)) ?_
      rw [hc]
      refine ab 1000 rfl trivial ?_
      refine S_guard rfl rfl rfl rfl (fun _ => ?_) (fun h => by cases h)
      refine ab 1000 rfl ⟨rfl, trivial⟩ ?_
      refine S_pure rfl rfl rfl (PackResult_ok x hc) (.cons (lend x _) (.nil _)) ?_
      rw [hp]
      refine ab 1000 rfl trivial ?_
      refine S_retc .bool rfl trivial ?_
      show AV.bool (s == s) = _
      simp
    · refine S_cond rfl (fun h => by cases h) (fun _ => ?_)
      refine ab 1000 rfl trivial ?_
      refine S_guard rfl rfl rfl rfl (fun _ => ?_) (fun h => by cases h)
      refine ab 1000 rfl ⟨cmpRes, rfl, trivial⟩ ?_
      refine S_guard rfl rfl rfl rfl (fun _ => ?_) (fun h => by cases h)
      refine ab 1000 rfl ⟨rfl, trivial⟩ ?_
      refine S_pure rfl rfl rfl (CheckResult_ok r (by omega)) (.cons (lend r _) (.nil _)) ?_
      refine ab 1000 rfl trivial ?_
      refine S_guard rfl rfl rfl rfl (fun h => ?_) (fun h => ?_)
      · refine ab 1000 rfl trivial ?_
        exact S_retc .bool rfl trivial rfl
      · have hc : resE r = 0 := by
          have h' : (((resE r : Nat) : Int) != 0) = false := h
          have : ((resE r : Nat) : Int) = 0 := by simpa using h'
          omega
        refine ab 1000 rfl ⟨rfl, trivial⟩ ?_
        refine S_pure rfl rfl rfl (PackResult_ok r hc) (.cons (lend r _) (.nil _)) ?_
        have hne : packR r ≠ s := by
          intro h'
          have := readR_pack r hc
          rw [h', hx] at this
          cases this
        refine ab 1000 rfl trivial ?_
        refine S_retc .bool rfl trivial ?_
        show AV.bool (!(packR r == s)) = _
        rw [beq_eq_false_iff_ne.2 hne]; rfl

theorem resBeq (a b : ResV) : ((a.code == b.code) && ((a.out == b.out) && ((a.spent == b.spent) && true))) = true ↔ a = b := by
  obtain ⟨a1, a2, a3⟩ := a
  obtain ⟨b1, b2, b3⟩ := b
  simp

theorem WireBackResult_ok (r o : ResV) (hs : r.out.length ≤ 1048576) (ho : o.out.length ≤ 1048576) : Calc cx 8 [resAV r, resAV o] (.bool true) :=
  pure_intro (fun a w => Try.call8 a w) Try.func8 rfl Try.ntmps8 rfl .bool fun B => by
    have lend : ∀ (x : ResV) (σ : Heap), Frz false σ (resAV x) (resAV x) := fun x σ => .refl (resAV_free x)
    refine ab 1000 rfl trivial ?_
    refine S_pure rfl rfl rfl wireBegun_ok (.nil _) ?_
    refine ab 1000 rfl trivial ?_
    refine S_cond rfl (fun h => by cases h) (fun _ => ?_)
    refine ab 1000 rfl ⟨rfl, trivial⟩ ?_
    refine S_pure rfl rfl rfl (Result_ok r (by omega)) (.cons (lend r _) (.nil _)) ?_
    by_cases hc : resE r = 0
    · rw [hc, if_pos rfl]
      obtain ⟨⟨m, hm, hm1⟩, ⟨k, hk, hk1⟩, _, hol⟩ := resE_ok hc
      refine ab 1000 rfl trivial ?_
      refine S_cond rfl (fun h => by cases h) (fun _ => ?_)
      refine ab 1000 rfl trivial ?_
      have hlen : (packR r).length ≤ 1000 := by
        have h1 := packN_len 9 m
        have h2 := packN_len 9 k
        have h3 := packN_len 9 r.out.length
        simp only [packR, packT, hm, hk, Int.toNat_natCast, List.length_append]; omega
      have hR := ReadResult_ok (packR r) (by omega)
      rw [readR_pack r hc] at hR
      refine S_pure rfl rfl rfl hR (.cons (.refl .str) (.nil _)) ?_
      refine ab 1000 rfl ⟨rfl, lble rfl, rfl, trivial⟩ ?_
      refine S_pure rfl rfl rfl (Result_ok o (by omega)) (.cons (lend o _) (.nil _)) ?_
      refine ab 1000 rfl trivial ?_
      refine S_guard rfl rfl rfl rfl (fun _ => ?_) (fun h => by cases h)
      refine ab 1000 rfl ⟨cmpRes, rfl, rfl, trivial⟩ ?_
      refine S_guard rfl rfl rfl rfl (fun _ => ?_) (fun h => ?_)
      · by_cases hd : resE o = 0
        · rw [hd, if_pos rfl]
          refine ab 1000 rfl trivial ?_
          refine S_guard rfl rfl rfl rfl (fun h => by cases h) (fun _ => ?_)
          refine ab 1000 rfl ⟨cmpRes, rfl, rfl, trivial⟩ ?_
          refine S_retc .bool rfl trivial ?_
          show AV.bool ((packR r == packR o) == ((r.code == o.code) && ((r.out == o.out) && ((r.spent == o.spent) && true)))) = _
          by_cases he : r = o
          · subst he; simp
          · have h2 : ((r.code == o.code) && ((r.out == o.out) && ((r.spent == o.spent) && true))) = false := by
              rw [← Bool.not_eq_true]; exact fun h => he ((resBeq r o).1 h)
            rw [beq_eq_false_iff_ne.2 (fun h => he (packR_inj hc hd h)), h2]; rfl
        · rw [if_neg hd]
          generalize resE o = e at *
          have hne : (((e : Nat) : Int) != 0) = true := by simp; omega
          refine ab 1000 rfl trivial ?_
          refine S_guard rfl rfl rfl rfl (fun _ => ?_) (fun h => absurd (h.symm.trans hne) (by decide))
          refine ab 1000 rfl trivial ?_
          exact S_retc .bool rfl trivial rfl
      · have h' : ((r.code == r.code) && ((r.out == r.out) && ((r.spent == r.spent) && true))) = false := h
        rw [(resBeq r r).2 rfl] at h'
        cases h'
    · rw [if_neg hc]
      generalize resE r = e at *
      have hne : (((e : Nat) : Int) != 0) = true := by simp; omega
      refine ab 1000 rfl trivial ?_
      refine S_cond rfl (fun _ => ?_) (fun h => absurd (h.symm.trans hne) (by decide))
      refine ab 1000 rfl trivial ?_
      exact S_retc .bool rfl trivial rfl

end Go.Proofs.Ytjbgcbolakdhaab
