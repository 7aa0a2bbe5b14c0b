/-
  The law DigestGuards.
-/
import Derived.Test.YtjpmngjoohoddabDoorDigS4
import Derived.Test.YtjpmngjoohoddabDoorDigZ
import Derived.Test.YtjpmngjoohoddabDoorDigV
import Derived.Test.YtjpmngjoohoddabDoorRefZ
import Derived.Test.YtjpmngjoohoddabDoorAbThree
set_option linter.unusedVariables false
set_option linter.unusedSimpArgs false
set_option maxRecDepth 20000
namespace Go.Proofs.YtjpmngjoohoddabDoor
open Go Go.Ab

theorem proofL_dig (n : Nat) : ∀ (l : List (List UInt8)) (i : Nat), l.length = n → ∀ d ∈ proofL l i, isDig d = true := by
  induction n using Nat.strongRecOn with
  | _ n ih =>
    intro l i hl d hd
    rw [proofL] at hd
    split at hd
    · cases hd
    · have hs := halfN_spec (n := l.length) (by omega)
      split at hd
      · rcases List.mem_append.1 hd with hd | hd
        · exact ih (halfN l.length) (by omega) _ _ (by rw [List.length_take]; omega) d hd
        · rw [List.mem_singleton] at hd; subst hd; exact rootS_dig _
      · rcases List.mem_append.1 hd with hd | hd
        · exact ih (l.length - halfN l.length) (by omega) _ _ (by rw [List.length_drop]) d hd
        · rw [List.mem_singleton] at hd; subst hd; exact rootS_dig _

theorem wayZ_len (ss : List Bool) (p : List (List UInt8)) : (wayZ ss p).length ≤ p.length := by
  rw [wayZ, List.length_reverse, List.length_zip]; omega

theorem wayZ_mem {ss : List Bool} {p : List (List UInt8)} {x : Bool × List UInt8} (h : x ∈ wayZ ss p) : x.2 ∈ p := by
  rw [wayZ, List.mem_reverse] at h
  exact (List.of_mem_zip h).2

theorem summedL_txt (n : Nat) : ∀ (l : List (List UInt8)), l.length = n → TextsFit l → ∀ s ∈ summedL l, s.length ≤ 2000000 := by
  induction n using Nat.strongRecOn with
  | _ n ih =>
    intro l hl hf s hs
    rw [summedL] at hs
    split at hs
    · rw [List.mem_singleton] at hs; subst hs; exact Nat.zero_le _
    · split at hs
      · rename_i h0 h1
        rw [List.mem_singleton] at hs; subst hs
        match l, h0, h1 with
        | [a], _, _ =>
          have := hf.txt a (by simp)
          show (0 :: a).length ≤ _
          rw [List.length_cons]; omega
      · have hh := halfN_spec (n := l.length) (by omega)
        rcases List.mem_append.1 hs with hs | hs
        · rcases List.mem_append.1 hs with hs | hs
          · exact ih (halfN l.length) (by omega) _ (by rw [List.length_take]; omega) (hf.take _) s hs
          · exact ih (l.length - halfN l.length) (by omega) _ (by rw [List.length_drop]) (hf.drop _) s hs
        · rw [List.mem_singleton] at hs; subst hs
          rw [pairT_len (hexE_dig (rootS_dig _)) (hexE_dig (rootS_dig _))]; decide

theorem chainT_txt (t : List UInt8) (ht : t.length ≤ 1048576) : ∀ (z : List (Bool × List UInt8)), (∀ x ∈ z, isDig x.2 = true) → ∀ s ∈ chainT t z, s.length ≤ 2000000
  | [], hz, s, hs => by
    rw [chainT, List.mem_singleton] at hs; subst hs
    rw [List.length_cons]; omega
  | (b, d) :: r, hz, s, hs => by
    rw [chainT] at hs
    rcases List.mem_append.1 hs with hs | hs
    · exact chainT_txt t ht r (fun x hx => hz x (by simp [hx])) s hs
    · rw [List.mem_singleton] at hs; subst hs
      have h1 := hexE_dig (hz (b, d) (by simp))
      have h2 := hexE_dig (upS_dig (leaf_dig t) r)
      split
      · rw [pairT_len h1 h2]; decide
      · rw [pairT_len h2 h1]; decide

theorem sees (l : List (List UInt8)) (t : List UInt8) (j : Nat) (p : List (List UInt8)) (hj : j < l.length) (hpd : ∀ d ∈ p, isDig d = true) (hc : ∀ a ∈ summedL l, ∀ b ∈ chainT t (wayZ (sides j l.length) p), sha a = sha b → a = b)
    (h : showsV (rootS l) t j l.length p = true) : t = l[j] := by
  obtain ⟨q1, q2⟩ := shownR_eq (leafS t) p.reverse j l.length (by omega)
  rw [showsV, Bool.and_eq_true, q1] at h
  have hlen : p.reverse.length = (sides j l.length).length := of_decide_eq_true h.1
  have hr : upS (leafS t) ((sides j l.length).zip p.reverse) = rootS l := by rw [← q2 hlen]; simpa using h.2
  rw [wayZ_eq (by rw [← hlen, List.length_reverse])] at hc
  exact sound t l.length l j p.reverse rfl (by omega) hj hlen (fun d hd => hpd d (List.mem_reverse.1 hd)) hc hr

theorem DigestGuards_ok {st fl : Bool} (l : List (List UInt8)) (i k : Int) (other : List UInt8) (hl : l.length ≤ 1048576) (ho : other.length ≤ 1048576) (hi : -9223372036854775808 ≤ i ∧ i ≤ 9223372036854775807) (hk : -9223372036854775808 ≤ k ∧ k ≤ 9223372036854775807) :
    Calc cx 8 [.sl st fl 1 (texts l), .int .i64 i, .int .i64 k, .str other] (.bool true) :=
  pure_intro (fun a w => Tryd.call8 a w) Tryd.func8 rfl Tryd.ntmps8 rfl .bool fun B => by
    have htl := texts_len l
    have lend : ∀ σ : Heap, Frz false σ (.sl st fl 1 (texts l)) (.sl st fl 1 (texts l)) := fun σ => .refl (.sl (fun h => by cases h) (texts_any l))
    have lendq : ∀ (q : List (List UInt8)) (σ : Heap), Frz false σ (.sl true false 1 (texts q)) (.sl true false 1 (texts q)) := fun q σ => .refl (.sl (fun h => by cases h) (texts_any q))
    refine ab 1000 rfl trivial ?_
    refine S_pure rfl rfl rfl digestBegun_ok (.nil _) ?_
    refine ab 1000 rfl trivial ?_
    refine S_cond (b := false) rfl (fun h => by cases h) (fun _ => ?_)
    refine ab 1000 rfl trivial ?_
    refine S_pure rfl rfl rfl (Root_ok (st := st) (fl := fl) l (by omega)) (.cons (lend _) (.nil _)) ?_
    by_cases hc : checkL l 2000 = 0
    · rw [hc, if_pos rfl]
      have hf := checkL_fit hc
      have hlen := hf.len
      refine ab 1000 rfl trivial ?_
      refine S_guard rfl rfl rfl rfl (fun h => absurd h (by decide)) (fun _ => ?_)
      refine ab 1000 rfl trivial ?_
      refine S_beq rfl (fun h => ?_) (fun h => ?_)
      · refine ab 1000 rfl trivial ?_
        exact S_retc .bool rfl trivial rfl
      have hn : 1 ≤ l.length := by have : ¬ (((texts l).length : Nat) : Int) = 0 := h; omega
      obtain ⟨n, hn'⟩ : ∃ n, n = l.length := ⟨_, rfl⟩
      obtain ⟨i', hi'⟩ : ∃ i', i' = chooseN i l.length := ⟨_, rfl⟩
      obtain ⟨k', hk'⟩ : ∃ k', k' = chooseN k l.length := ⟨_, rfl⟩
      have hil : i' < l.length := by rw [hi']; exact chooseN_lt i hn
      have hkl : k' < l.length := by rw [hk']; exact chooseN_lt k hn
      have ci := choose_ok i l.length hi hn (by omega)
      have ck := choose_ok k l.length hk hn (by omega)
      rw [← hi'] at ci
      rw [← hk'] at ck
      rw [← htl] at ci ck
      refine ab 1000 rfl trivial ?_
      refine S_pure rfl rfl rfl ci (.cons (.refl .int) (.cons (.refl .int) (.nil _))) ?_
      refine ab 1000 rfl trivial ?_
      refine S_pure rfl rfl rfl ck (.cons (.refl .int) (.cons (.refl .int) (.nil _))) ?_
      refine ab 1000 rfl trivial ?_
      have hP := Proof_ok (st := st) (fl := fl) l i' hl
      have hE : proofE l i' = 0 := by rw [proofE, if_neg (by omega), if_neg (by omega)]
      obtain ⟨p, hp⟩ : ∃ p, p = proofL l i' := ⟨_, rfl⟩
      rw [proofV, hE, if_pos rfl, Int.toNat_natCast, ← hp] at hP
      refine S_pure rfl rfl rfl hP (.cons (lend _) (.cons (.refl .int) (.nil _))) ?_
      refine ab 1000 rfl trivial ?_
      have c0 : (0 : Int) ≤ ((i' : Nat) : Int) := by omega
      have gi : (texts l)[((i' : Nat) : Int).toNat]? = some (.str l[i']) := by rw [Int.toNat_natCast]; exact texts_get hil
      have gk : (texts l)[((k' : Nat) : Int).toNat]? = some (.str l[k']) := by rw [Int.toNat_natCast]; exact texts_get hkl
      have hpl : p.length ≤ l.length := by rw [hp]; exact proofL_len _ l i' rfl
      have hpd : ∀ d ∈ p, isDig d = true := by rw [hp]; exact proofL_dig _ l i' rfl
      have hti := hf.txt _ (List.getElem_mem hil)
      have htk := hf.txt _ (List.getElem_mem hkl)
      have hF : formsB (rootS l) p = true := by rw [formsB, List.all_cons, rootS_dig, Bool.true_and]; exact List.all_eq_true.2 hpd
      have hdl : ∀ d ∈ rootS l :: p, d.length ≤ 9223372036854775806 := by
        intro d hd
        have hd : isDig d = true := by
          rcases List.mem_cons.1 hd with rfl | hd
          · exact rootS_dig l
          · exact hpd d hd
        have := (hexE_dig hd).1
        omega
      have eS : ∀ (t : List UInt8) (j : Nat), t.length ≤ 100000 → j < l.length → showsE (rootS l) t (j : Nat) ((texts l).length : Nat) p = 0 := fun t j h1 h2 => by
        rw [showsE, hF, if_neg (by decide), if_neg (by omega), if_neg (by omega)]
      have hS1 := Shows_ok (st := true) (fl := false) (rootS l) l[i'] (i' : Nat) ((texts l).length : Nat) p (by omega) hdl
      have hcm := complete l.length l i' rfl hil
      rw [eS _ _ hti hil, if_pos rfl, showsV, Int.toNat_natCast, Int.toNat_natCast, htl, hp, hcm, ← hp] at hS1
      have hS1 : Calc cx 20 [.str (rootS l), .str l[i'], .int .i64 (i' : Nat), .int .i64 ((texts l).length : Nat), .sl true false 1 (texts p)] (.tup [.bool true, .int .i64 0]) := by
        rw [beq_self_eq_true] at hS1; rw [htl]; exact hS1
      refine S_index (.str l[i']) rfl rfl rfl ⟨rfl, c0, gi, trivial⟩ ?_
      refine ab 1000 rfl trivial ?_
      refine S_pure rfl rfl rfl hS1 (.cons (.refl .str) (.cons (.refl .str) (.cons (.refl .int) (.cons (.refl .int) (.cons (lendq _ _) (.nil _)))))) ?_
      refine ab 1000 rfl trivial ?_
      refine S_guard rfl rfl rfl rfl (fun h => absurd h (by decide)) (fun _ => ?_)
      refine ab 1000 rfl trivial ?_
      refine S_guard rfl rfl rfl rfl (fun h => absurd h (by decide)) (fun _ => ?_)
      refine ab 1000 rfl trivial ?_
      refine S_cond (b := false) rfl (fun h => by cases h) (fun _ => ?_)
      obtain ⟨z1, hz1⟩ : ∃ z1, z1 = wayZ (sides i' (texts l).length) p := ⟨_, rfl⟩
      obtain ⟨z2, hz2⟩ : ∃ z2, z2 = wayZ (sides k' (texts l).length) p := ⟨_, rfl⟩
      have hW1 := Shown_ok (st := true) (fl := false) other i' (texts l).length p ho (by omega) (by omega) (by omega) hpd (by omega)
      have hW2 := Shown_ok (st := true) (fl := false) l[i'] k' (texts l).length p (by omega) (by omega) (by omega) (by omega) hpd (by omega)
      rw [← hz1] at hW1
      rw [← hz2] at hW2
      refine ab 1000 rfl trivial ?_
      refine S_draw 16 [] [.sl true false 1 (texts (summedL l)), .sl true false 1 (texts (chainT other z1)), .str l[i']] rfl rfl rfl rfl
        ⟨rfl, ⟨_, ownU_calc (SummedC l.length (st := st) (fl := fl) l rfl hf), .cons (lend _) (.nil _)⟩, rfl, rfl, rfl, rfl, rfl, ⟨_, hW1, .cons (.refl .str) (.cons (.refl .int) (.cons (.refl .int) (.cons (lendq _ _) (.nil _))))⟩, rfl, rfl, rfl, c0, gi, rfl, rfl, rfl, rfl, rfl, trivial⟩ ?_
      refine ab 1000 rfl trivial ?_
      refine S_pure rfl rfl rfl hW2 (.cons (.refl .str) (.cons (.refl .int) (.cons (.refl .int) (.cons (lendq _ _) (.nil _))))) ?_
      refine ab 1000 rfl trivial ?_
      have hsl := summedL_len _ l rfl
      have hcl1 := chainT_len other z1
      have hcl2 := chainT_len l[i'] z2
      refine S_pure rfl rfl rfl (Clash_ok (st := true) (fl := true) [summedL l, chainT other z1, chainT l[i'] z2] (by simp) ?_ ?_) (.cons (.refl (.sl (fun h => by cases h) ?_)) (.nil _)) ?_
      · intro q hq
        simp only [List.mem_cons, List.not_mem_nil, or_false] at hq
        rcases hq with rfl | rfl | rfl
        · omega
        · have := wayZ_len (sides i' (texts l).length) p; rw [← hz1] at this; omega
        · have := wayZ_len (sides k' (texts l).length) p; rw [← hz2] at this; omega
      · intro q hq
        simp only [List.mem_cons, List.not_mem_nil, or_false] at hq
        rcases hq with rfl | rfl | rfl
        · exact summedL_txt _ l rfl hf
        · exact chainT_txt other ho z1 (fun x hx => by rw [hz1] at hx; exact hpd _ (wayZ_mem hx))
        · exact chainT_txt l[i'] (by omega) z2 (fun x hx => by rw [hz2] at hx; exact hpd _ (wayZ_mem hx))
      · intro x hx
        simp only [List.mem_cons, List.not_mem_nil, or_false] at hx
        rcases hx with rfl | rfl | rfl <;> exact .sl (fun h => by cases h) (texts_any _)
      refine ab 1000 rfl trivial ?_
      refine S_cond rfl (fun hx => ?_) (fun hx => ?_)
      · refine ab 1000 rfl trivial ?_
        exact S_retc .bool rfl trivial rfl
      have hap := clashF_apart _ [] hx (fun a ha => by cases ha)
      rw [List.nil_append] at hap
      refine ab 1000 rfl trivial ?_
      have hap1 : ∀ a ∈ summedL l, ∀ b ∈ chainT other z1, sha a = sha b → a = b := fun a ha b hb => hap a (by simp [ha]) b (by simp [hb])
      have hap2 : ∀ a ∈ summedL l, ∀ b ∈ chainT l[i'] z2, sha a = sha b → a = b := fun a ha b hb => hap a (by simp [ha]) b (by simp [hb])
      have hS2 := Shows_ok (st := true) (fl := false) (rootS l) other (i' : Nat) ((texts l).length : Nat) p (by omega) hdl
      have hS3 := Shows_ok (st := true) (fl := false) (rootS l) l[i'] (k' : Nat) ((texts l).length : Nat) p (by omega) hdl
      rw [eS _ _ hti hkl, if_pos rfl, Int.toNat_natCast, Int.toNat_natCast] at hS3
      rw [Int.toNat_natCast, Int.toNat_natCast] at hS2
      rw [htl] at hz1 hz2
      have hyes := sees l l[i'] k' p hkl hpd (by rw [← hz2]; exact hap2)
      have hno := sees l other i' p hil hpd (by rw [← hz1]; exact hap1)
      rw [← htl] at hyes hno
      obtain ⟨yes, hy⟩ : ∃ yes, yes = showsV (rootS l) l[i'] k' (texts l).length p := ⟨_, rfl⟩
      obtain ⟨e2, he2⟩ : ∃ e2, e2 = showsE (rootS l) other (i' : Nat) ((texts l).length : Nat) p := ⟨_, rfl⟩
      obtain ⟨no, hn2⟩ : ∃ no, no = (if e2 = 0 then showsV (rootS l) other i' (texts l).length p else false) := ⟨_, rfl⟩
      rw [← hy] at hS3 hyes
      rw [← he2, ← hn2] at hS2
      refine S_pure rfl rfl rfl hS2 (.cons (.refl .str) (.cons (.refl .str) (.cons (.refl .int) (.cons (.refl .int) (.cons (lendq _ _) (.nil _)))))) ?_
      refine ab 1000 rfl trivial ?_
      refine S_index (.str l[i']) rfl rfl rfl ⟨rfl, c0, gi, trivial⟩ ?_
      refine ab 1000 rfl trivial ?_
      refine S_pure rfl rfl rfl hS3 (.cons (.refl .str) (.cons (.refl .str) (.cons (.refl .int) (.cons (.refl .int) (.cons (lendq _ _) (.nil _)))))) ?_
      refine ab 1000 rfl trivial ?_
      refine S_split 14 (fun fr σ => Weak fr [(0, .sl st fl 1 (texts l)), (1, .int .i64 (i' : Nat)), (2, .int .i64 (k' : Nat)), (15, .bool yes), (125, .bool false)] ∧ σ = []) ?_ ?_
      · refine S_guard rfl rfl rfl rfl (fun h => ?_) (fun h => ?_)
        · have h0 : e2 = 0 := by have : ((e2 : Nat) : Int) = 0 := by simpa using h
                                 omega
          subst h0
          rw [if_pos rfl] at hn2
          refine ab 1000 rfl trivial ?_
          refine S_guard rfl rfl rfl rfl (fun h => ?_) (fun h => ?_)
          · have h : no = true := h
            have hot := hno (hn2 ▸ h)
            refine ab 1000 rfl trivial ?_
            refine S_index (.str l[i']) rfl rfl rfl ⟨rfl, c0, gi, trivial⟩ ?_
            refine ab 1000 rfl trivial ?_
            refine S_guard rfl rfl rfl rfl (fun h => ?_) (fun _ => ?_)
            · exfalso
              have h : (other != l[i']) = true := h
              rw [hot] at h; simp at h
            refine ab 1000 rfl trivial ?_
            exact S_inv ⟨(.cons rfl (.cons rfl (.cons rfl (.cons rfl (.cons rfl (.nil _)))))), rfl⟩
          · refine ab 1000 rfl trivial ?_
            refine S_guard rfl rfl rfl rfl (fun h => absurd h (by decide)) (fun _ => ?_)
            refine ab 1000 rfl trivial ?_
            exact S_inv ⟨(.cons rfl (.cons rfl (.cons rfl (.cons rfl (.cons rfl (.nil _)))))), rfl⟩
        · refine ab 1000 rfl trivial ?_
          refine S_guard rfl rfl rfl rfl (fun h => absurd h (by decide)) (fun _ => ?_)
          refine ab 1000 rfl trivial ?_
          refine S_guard rfl rfl rfl rfl (fun h => absurd h (by decide)) (fun _ => ?_)
          refine ab 1000 rfl trivial ?_
          exact S_inv ⟨(.cons rfl (.cons rfl (.cons rfl (.cons rfl (.cons rfl (.nil _)))))), rfl⟩
      rintro fr σ ⟨hw, rfl⟩
      refine S_opsW hw ?_
      refine ab 1000 rfl trivial ?_
      refine S_cond (b := false) rfl (fun h => by cases h) (fun _ => ?_)
      refine ab 1000 rfl trivial ?_
      have c0k : (0 : Int) ≤ ((k' : Nat) : Int) := by omega
      cases yes with
      | false =>
        refine S_draw 18 [128, 133] [] rfl rfl rfl rfl ⟨rfl, rfl, rfl, rfl, rfl, rfl, trivial⟩ ?_
        refine ab 1000 rfl trivial ?_
        exact S_retc .bool rfl trivial rfl
      | true =>
        have hik := hyes rfl
        by_cases hikk : i' = k'
        · refine S_drawV 5 18 [128, 133] [.bool true] rfl rfl rfl rfl ⟨rfl, rfl, rfl, rfl, rfl, rfl, by subst hikk; simp, rfl, rfl, rfl, trivial⟩ ?_
          refine ab 1000 rfl trivial ?_
          exact S_retc .bool rfl trivial rfl
        · refine S_drawV 5 18 [128, 133] [.bool false, .str l[i'], .str l[k']] rfl rfl rfl rfl ⟨rfl, rfl, rfl, rfl, rfl, rfl, ?_, rfl, rfl, rfl, rfl, rfl, c0, gi, rfl, rfl, rfl, rfl, c0k, gk, rfl, rfl, rfl, trivial⟩ ?_
          · exact congrArg AV.bool (beq_eq_false_iff_ne.2 (fun h => hikk (by omega)))
          refine ab 1000 rfl trivial ?_
          refine S_retc .bool rfl trivial ?_
          exact congrArg AV.bool (beq_iff_eq.2 hik)
    · rw [if_neg hc]
      generalize checkL l 2000 = e at *
      refine ab 1000 rfl trivial ?_
      refine S_guard rfl rfl rfl rfl (fun _ => ?_) (fun h => absurd (show ((e : Nat) : Int) = 0 by simpa using h) (by omega))
      refine ab 1000 rfl trivial ?_
      refine S_cond (b := true) rfl (fun _ => ?_) (fun h => by cases h)
      refine ab 1000 rfl trivial ?_
      exact S_retc .bool rfl trivial rfl

end Go.Proofs.YtjpmngjoohoddabDoor
