/-
  Results packed and read.
-/
import Derived.Test.YtjbgcbolakdhaabWireK
import Derived.Test.YtjbgcbolakdhaabWireF
import Derived.Test.YtjbgcbolakdhaabRefN
import Derived.Test.YtjbgcbolakdhaabDigI
set_option linter.unusedVariables false
set_option linter.unusedSimpArgs false
set_option maxRecDepth 20000
namespace Go.Proofs.Ytjbgcbolakdhaab
open Go Go.Ab

structure ResV where
  code : Int
  out : List UInt8
  spent : Int

def resAV (r : ResV) : AV := .agg [.int .i64 r.code, .str r.out, .int .i64 r.spent]

theorem resAV_free {st : Bool} (r : ResV) : Free st (resAV r) := .agg (by intro x hx; simp at hx; rcases hx with rfl | rfl | rfl; exact .int; exact .str; exact .int)

def isNum (n : Int) : Bool := decide (0 ≤ n) && decide (n ≤ 9007199254740991)

/-- What is wrong with a result. -/
def resE (r : ResV) : Nat := if (isNum r.code && isNum r.spent) = true then (if isDig r.out = true then 0 else 1) else 3

def packR (r : ResV) : List UInt8 := packN 9 r.code.toNat ++ packT r.out ++ packN 9 r.spent.toNat

theorem resE_ok {r : ResV} (h : resE r = 0) : (∃ m : Nat, r.code = m ∧ m ≤ 9007199254740991) ∧ (∃ m : Nat, r.spent = m ∧ m ≤ 9007199254740991) ∧ isDig r.out = true ∧ r.out.length = 64 := by
  unfold resE at h
  split at h
  · rename_i h1
    split at h
    · rename_i h2
      simp only [Bool.and_eq_true, isNum, decide_eq_true_eq] at h1
      obtain ⟨m, hm⟩ := Int.eq_ofNat_of_zero_le h1.1.1
      obtain ⟨k, hk⟩ := Int.eq_ofNat_of_zero_le h1.2.1
      refine ⟨⟨m, hm, by omega⟩, ⟨k, hk, by omega⟩, h2, ?_⟩
      simp only [isDig, Bool.and_eq_true, beq_iff_eq] at h2
      exact h2.2
    · cases h
  · cases h

theorem Result_ok (r : ResV) (hs : r.out.length ≤ 9223372036854775806) : Calc cx 17 [resAV r] (.tup [.str (if resE r = 0 then packR r else []), .int .i64 (resE r)]) :=
  pure_intro (fun a w => Try.call17 a w) Try.func17 rfl Try.ntmps17 rfl (ans_free _ _) fun B => by
    refine ab 1000 rfl ⟨rfl, trivial⟩ ?_
    refine S_ghost 1 ⟨false, some 5⟩ (id := 1) (j := 1) rfl rfl rfl (show (1 : Nat) ≠ 2 by decide) ⟨.skip, _, .inr ⟨_, _, _, rfl⟩⟩ ?_
    refine S_pure rfl rfl rfl (isNumber_ok r.code) (.cons (.refl .int) (.nil _)) ?_
    refine S_split 7 (fun fr σ => Weak fr [(1, .ptr 0 0 0), (4, .ptr 1 0 0), (7, .ptr 1 0 0), (17, .bool !(isNum r.code && isNum r.spent))] ∧ σ = [(0, some (.cells [.int .i64 r.code, .str r.out, .int .i64 r.spent] ⟨false, some 38⟩)), pkB 1 2 0 0 .nilp [] 0, byB 0 []]) ?_ ?_
    · refine ab 1000 rfl trivial ?_
      refine S_guard rfl rfl rfl rfl (fun h => ?_) (fun h => ?_)
      · refine ab 1000 rfl trivial ?_
        have hc : isNum r.code = false := by simpa using (show (!isNum r.code) = true from h)
        exact S_inv ⟨.cons rfl (.cons rfl (.cons rfl (.cons (by rw [hc]; rfl) (.nil _)))), rfl⟩
      · have hc : isNum r.code = true := by simpa using (show (!isNum r.code) = false from h)
        refine ab 1000 rfl ⟨rfl, trivial⟩ ?_
        refine S_pure rfl rfl rfl (isNumber_ok r.spent) (.cons (.refl .int) (.nil _)) ?_
        refine ab 1000 rfl trivial ?_
        exact S_inv ⟨.cons rfl (.cons rfl (.cons rfl (.cons (by rw [hc]; rfl) (.nil _)))), rfl⟩
    rintro fr σ ⟨hw, rfl⟩
    refine S_opsW hw ?_
    refine S_pk 1 2 rfl rfl rfl rfl rfl rfl (.inl rfl) rfl free_bi (fun a ha => fail_ok 0 0 a ha [] (!(isNum r.code && isNum r.spent)) 3 0) free_u (fun u1 a1 ha1 => ?_)
    refine ab 1000 rfl ⟨rfl, trivial⟩ ?_
    refine S_pure rfl rfl rfl (digestIs_ok r.out hs) (.cons (.refl .str) (.nil _)) ?_
    refine ab 1000 rfl trivial ?_
    refine S_pk 1 2 rfl rfl rfl rfl rfl rfl ha1 rfl free_bi (fun a ha => fail_ok 0 u1 a ha [] (!isDig r.out) 1 (failE (!(isNum r.code && isNum r.spent)) 3 0)) free_u (fun u2 a2 ha2 => ?_)
    have hE : failE (!isDig r.out) 1 (failE (!(isNum r.code && isNum r.spent)) 3 0) = resE r := by
      unfold failE resE
      cases (isNum r.code && isNum r.spent) <;> cases isDig r.out <;> rfl
    rw [hE]
    refine ab 1000 rfl ⟨rfl, trivial⟩ ?_
    refine S_bne rfl (fun h => ?_) (fun h => ?_)
    · have he : resE r ≠ 0 := by omega
      rw [if_neg he]
      refine ab 1000 rfl trivial ?_
      refine S_doneE 1 2 rfl rfl rfl rfl rfl rfl ha2 he ?_
      refine ab 1000 rfl trivial ?_
      exact S_retc (ans_free _ _) rfl trivial rfl
    · have he : resE r = 0 := by omega
      rw [he, if_pos rfl]
      obtain ⟨⟨m, hm, hm1⟩, ⟨k, hk, hk1⟩, hd, hl⟩ := resE_ok he
      have hpm := packN_len 9 m
      have hpk := packN_len 9 k
      have hp6 := packN_len 9 r.out.length
      have hpt : (packT r.out).length ≤ 80 := by simp only [packT, List.length_append]; omega
      refine ab 1000 rfl ⟨rfl, trivial⟩ ?_
      refine S_pk 1 2 rfl rfl rfl rfl rfl rfl ha2 (show [AV.int .i64 r.code] = [.int .i64 (m : Int)] by rw [hm]) free_i (fun a ha => pnumber_ok 0 u2 a ha [] m (by omega) (by decide)) free_u (fun u3 a3 ha3 => ?_)
      rw [List.nil_append]
      refine ab 1000 rfl ⟨rfl, trivial⟩ ?_
      refine S_pk 1 2 rfl rfl rfl rfl rfl rfl ha3 rfl free_s (fun a ha => ptext_ok 0 u3 a ha (packN 9 m) r.out (by omega)) free_u (fun u4 a4 ha4 => ?_)
      refine ab 1000 rfl ⟨rfl, trivial⟩ ?_
      refine S_pk 1 2 rfl rfl rfl rfl rfl rfl ha4 (show [AV.int .i64 r.spent] = [.int .i64 (k : Int)] by rw [hk]) free_i (fun a ha => pnumber_ok 0 u4 a ha (packN 9 m ++ packT r.out) k (by omega) (by rw [List.length_append]; omega)) free_u (fun u5 a5 ha5 => ?_)
      refine ab 1000 rfl trivial ?_
      have hR : packR r = packN 9 m ++ packT r.out ++ packN 9 k := by simp only [packR, hm, hk, Int.toNat_natCast]
      rw [hR]
      refine S_done0 1 2 rfl rfl rfl rfl rfl rfl ha5 (by simp [packN_ne]) (by simp only [List.length_append]; omega) ?_
      refine ab 1000 rfl trivial ?_
      exact S_retc (ans_free _ _) rfl trivial rfl

theorem CheckResult_ok (r : ResV) (hs : r.out.length ≤ 9223372036854775806) : Calc cx 18 [resAV r] (.int .i64 (resE r)) :=
  pure_intro (fun a w => Try.call18 a w) Try.func18 rfl Try.ntmps18 rfl .int fun B => by
    refine ab 1000 rfl ⟨rfl, trivial⟩ ?_
    refine S_pure rfl rfl rfl (IsNumber_ok r.code) (.cons (.refl .int) (.nil _)) ?_
    refine S_split 7 (fun fr σ => Weak fr [(1, .ptr 0 0 0), (12, .bool !(isNum r.code && isNum r.spent))] ∧ σ = [(0, some (.cells [.int .i64 r.code, .str r.out, .int .i64 r.spent] ⟨false, some 38⟩))]) ?_ ?_
    · refine ab 1000 rfl trivial ?_
      refine S_guard rfl rfl rfl rfl (fun h => ?_) (fun h => ?_)
      · refine ab 1000 rfl trivial ?_
        have hc : isNum r.code = false := by simpa using (show (!isNum r.code) = true from h)
        exact S_inv ⟨.cons rfl (.cons (by rw [hc]; rfl) (.nil _)), rfl⟩
      · have hc : isNum r.code = true := by simpa using (show (!isNum r.code) = false from h)
        refine ab 1000 rfl ⟨rfl, trivial⟩ ?_
        refine S_pure rfl rfl rfl (IsNumber_ok r.spent) (.cons (.refl .int) (.nil _)) ?_
        refine ab 1000 rfl trivial ?_
        exact S_inv ⟨.cons rfl (.cons (by rw [hc]; rfl) (.nil _)), rfl⟩
    rintro fr σ ⟨hw, rfl⟩
    refine S_opsW hw ?_
    refine ab 1000 rfl trivial ?_
    refine S_cond rfl (fun h => ?_) (fun h => ?_)
    · refine ab 1000 rfl trivial ?_
      refine S_retc .int rfl trivial ?_
      rw [resE, if_neg (by rw [Bool.not_eq_true'] at h; rw [h]; decide)]; rfl
    · have h1 : (isNum r.code && isNum r.spent) = true := by simpa using h
      refine ab 1000 rfl ⟨rfl, trivial⟩ ?_
      refine S_pure rfl rfl rfl (IsDigest_ok r.out hs) (.cons (.refl .str) (.nil _)) ?_
      refine ab 1000 rfl trivial ?_
      refine S_cond rfl (fun h => ?_) (fun h => ?_)
      · refine ab 1000 rfl trivial ?_
        refine S_retc .int rfl trivial ?_
        rw [resE, if_pos h1, if_neg (by rw [Bool.not_eq_true'] at h; rw [h]; decide)]; rfl
      · refine ab 1000 rfl trivial ?_
        refine S_retc .int rfl trivial ?_
        rw [resE, if_pos h1, if_pos (by simpa using h)]; rfl

theorem PackResult_ok (r : ResV) (he : resE r = 0) : Calc cx 19 [resAV r] (.str (packR r)) :=
  pure_intro (fun a w => Try.call19 a w) Try.func19 rfl Try.ntmps19 rfl .str fun B => by
    obtain ⟨⟨m, hm, hm1⟩, ⟨k, hk, hk1⟩, hd, hl⟩ := resE_ok he
    have hpm := packN_len 9 m
    have hpk := packN_len 9 k
    have hp6 := packN_len 9 r.out.length
    refine ab 1000 rfl trivial ?_
    refine S_draw 11 [] [.str (packN 9 m), .str (packN 9 r.out.length ++ r.out), .str (packN 9 k)] rfl rfl rfl rfl ⟨rfl, rfl, rfl, ⟨_, PackNumber_ok m hm1, .cons (by rw [← hm]; exact .refl .int) (.nil _)⟩, rfl, rfl, rfl, ⟨_, PackText_ok r.out (by omega), .cons (.refl .str) (.nil _)⟩, rfl, ?_, rfl, rfl, rfl, ⟨_, PackNumber_ok k hk1, .cons (by rw [← hk]; exact .refl .int) (.nil _)⟩, rfl, ?_, trivial⟩ ?_
    · rw [List.length_append]; omega
    · simp only [List.length_append]; omega
    refine ab 1000 rfl trivial ?_
    refine S_retc .str rfl trivial ?_
    simp only [packR, hm, hk, Int.toNat_natCast, packT]; rfl

end Go.Proofs.Ytjbgcbolakdhaab
