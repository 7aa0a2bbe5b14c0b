/-
  Letters, digits and signs of sources: the program and the reference.
-/
import Derived.Test.YtkgmbnjdeokdkaaDoorTokS
import Derived.Test.YtkgmbnjdeokdkaaDoorRefT0
set_option linter.unusedVariables false
set_option linter.unusedSimpArgs false
set_option maxRecDepth 20000
namespace Go.Proofs.YtkgmbnjdeokdkaaDoor
open Go Go.Ab

theorem isDigit_ok (c : UInt8) : Calc cx 38 [.int .u8 (c.toNat : Nat)] (.bool (isDg c)) :=
  pure_intro (fun a w => Tryd.call38 a w) Tryd.func38 rfl Tryd.ntmps38 rfl .bool fun B => by
    refine ab 1000 rfl trivial ?_
    refine S_guard rfl rfl rfl rfl (fun h => ?_) (fun h => ?_)
    · have h : 48 ≤ c.toNat := by have : (48 : Int) ≤ ((c.toNat : Nat) : Int) := of_decide_eq_true h; omega
      refine ab 1000 rfl trivial ?_
      refine S_retc .bool rfl trivial ?_
      rw [isDg, decide_eq_true h, Bool.true_and]
      exact congrArg AV.bool (decide_eq_decide.2 (by omega))
    · have h : ¬ 48 ≤ c.toNat := by have : ¬ (48 : Int) ≤ ((c.toNat : Nat) : Int) := of_decide_eq_false h; omega
      refine ab 1000 rfl trivial ?_
      refine S_retc .bool rfl trivial ?_
      rw [isDg, decide_eq_false h, Bool.false_and]; rfl

theorem IsDigitByte_ok (c : UInt8) : Calc cx 30 [.int .u8 (c.toNat : Nat)] (.bool (isDg c)) :=
  pure_intro (fun a w => Tryd.call30 a w) Tryd.func30 rfl Tryd.ntmps30 rfl .bool fun B => by
    refine ab 1000 rfl trivial ?_
    refine S_guard rfl rfl rfl rfl (fun h => ?_) (fun h => ?_)
    · have h : 48 ≤ c.toNat := by have : (48 : Int) ≤ ((c.toNat : Nat) : Int) := of_decide_eq_true h; omega
      refine ab 1000 rfl trivial ?_
      refine S_retc .bool rfl trivial ?_
      rw [isDg, decide_eq_true h, Bool.true_and]
      exact congrArg AV.bool (decide_eq_decide.2 (by omega))
    · have h : ¬ 48 ≤ c.toNat := by have : ¬ (48 : Int) ≤ ((c.toNat : Nat) : Int) := of_decide_eq_false h; omega
      refine ab 1000 rfl trivial ?_
      refine S_retc .bool rfl trivial ?_
      rw [isDg, decide_eq_false h, Bool.false_and]; rfl

theorem isLetter_ok (c : UInt8) : Calc cx 35 [.int .u8 (c.toNat : Nat)] (.bool (isLet c)) :=
  pure_intro (fun a w => Tryd.call35 a w) Tryd.func35 rfl Tryd.ntmps35 rfl .bool fun B => by
    obtain ⟨n, hn⟩ : ∃ n, n = c.toNat := ⟨_, rfl⟩
    have hr : isLet c = (decide (97 ≤ n ∧ n ≤ 122) || decide (65 ≤ n ∧ n ≤ 90) || decide (n = 95)) := by
      have h95 : (c == 95) = decide (n = 95) := by
        rw [Bool.eq_iff_iff, beq_iff_eq, decide_eq_true_iff, hn]
        exact ⟨fun h => by rw [h]; rfl, fun h => UInt8.toNat_inj.1 h⟩
      rw [isLet, h95, ← hn]; simp only [Bool.decide_and]
    rw [hr, ← hn]
    have dI : ∀ {p q : Prop} [Decidable p] [Decidable q], (p ↔ q) → AV.bool (decide p) = .bool (decide q) := fun h => congrArg AV.bool (decide_eq_decide.2 h)
    have dT : ∀ {p : Prop} [Decidable p], p → AV.bool true = .bool (decide p) := fun h => by rw [decide_eq_true h]
    have dF : ∀ {p : Prop} [Decidable p], ¬ p → AV.bool false = .bool (decide p) := fun h => by rw [decide_eq_false h]
    refine ab 1000 rfl trivial ?_
    refine S_split 3 (fun fr σ => Weak fr [(0, .int .u8 (n : Nat)), (8, .bool (decide (97 ≤ n ∧ n ≤ 122)))] ∧ σ = []) ?_ ?_
    · refine S_guard rfl rfl rfl rfl (fun h => ?_) (fun h => ?_)
      · have h : (97 : Int) ≤ ((n : Nat) : Int) := of_decide_eq_true h
        refine ab 1000 rfl trivial ?_
        exact S_inv ⟨(.cons rfl (.cons (dI (by omega)) (.nil _))), rfl⟩
      · have h : ¬ (97 : Int) ≤ ((n : Nat) : Int) := of_decide_eq_false h
        refine ab 1000 rfl trivial ?_
        exact S_inv ⟨(.cons rfl (.cons (dF (by omega)) (.nil _))), rfl⟩
    rintro fr σ ⟨hw, rfl⟩
    refine S_opsW hw ?_
    refine ab 1000 rfl trivial ?_
    refine S_split 7 (fun fr σ => Weak fr [(0, .int .u8 (n : Nat)), (16, .bool (decide ((97 ≤ n ∧ n ≤ 122) ∨ (65 ≤ n ∧ n ≤ 90))))] ∧ σ = []) ?_ ?_
    · refine S_guard rfl rfl rfl rfl (fun h => ?_) (fun h => ?_)
      · have h : 97 ≤ n ∧ n ≤ 122 := of_decide_eq_true h
        refine ab 1000 rfl trivial ?_
        exact S_inv ⟨(.cons rfl (.cons (dT (.inl h)) (.nil _))), rfl⟩
      · have h : ¬ (97 ≤ n ∧ n ≤ 122) := of_decide_eq_false h
        refine ab 1000 rfl trivial ?_
        refine S_guard rfl rfl rfl rfl (fun h2 => ?_) (fun h2 => ?_)
        · have h2 : (65 : Int) ≤ ((n : Nat) : Int) := of_decide_eq_true h2
          refine ab 1000 rfl trivial ?_
          exact S_inv ⟨(.cons rfl (.cons (dI (by omega)) (.nil _))), rfl⟩
        · have h2 : ¬ (65 : Int) ≤ ((n : Nat) : Int) := of_decide_eq_false h2
          refine ab 1000 rfl trivial ?_
          exact S_inv ⟨(.cons rfl (.cons (dF (by omega)) (.nil _))), rfl⟩
    rintro fr σ ⟨hw, rfl⟩
    refine S_opsW hw ?_
    refine ab 1000 rfl trivial ?_
    refine S_guard rfl rfl rfl rfl (fun h => ?_) (fun h => ?_)
    · have h : (97 ≤ n ∧ n ≤ 122) ∨ (65 ≤ n ∧ n ≤ 90) := of_decide_eq_true h
      refine ab 1000 rfl trivial ?_
      refine S_retc .bool rfl trivial ?_
      rw [← Bool.decide_or, decide_eq_true h]; rfl
    · have h : ¬ ((97 ≤ n ∧ n ≤ 122) ∨ (65 ≤ n ∧ n ≤ 90)) := of_decide_eq_false h
      refine ab 1000 rfl trivial ?_
      refine S_retc .bool rfl trivial ?_
      rw [← Bool.decide_or, decide_eq_false h, Bool.false_or]
      show AV.bool (((n : Nat) : Int) == 95) = _
      congr 1
      rw [Bool.eq_iff_iff, beq_iff_eq, decide_eq_true_iff]; omega

theorem IsLetterByte_ok (c : UInt8) : Calc cx 29 [.int .u8 (c.toNat : Nat)] (.bool (isLet c)) :=
  pure_intro (fun a w => Tryd.call29 a w) Tryd.func29 rfl Tryd.ntmps29 rfl .bool fun B => by
    obtain ⟨n, hn⟩ : ∃ n, n = c.toNat := ⟨_, rfl⟩
    have hr : isLet c = (decide (97 ≤ n ∧ n ≤ 122) || decide (65 ≤ n ∧ n ≤ 90) || decide (n = 95)) := by
      have h95 : (c == 95) = decide (n = 95) := by
        rw [Bool.eq_iff_iff, beq_iff_eq, decide_eq_true_iff, hn]
        exact ⟨fun h => by rw [h]; rfl, fun h => UInt8.toNat_inj.1 h⟩
      rw [isLet, h95, ← hn]; simp only [Bool.decide_and]
    rw [hr, ← hn]
    have dI : ∀ {p q : Prop} [Decidable p] [Decidable q], (p ↔ q) → AV.bool (decide p) = .bool (decide q) := fun h => congrArg AV.bool (decide_eq_decide.2 h)
    have dT : ∀ {p : Prop} [Decidable p], p → AV.bool true = .bool (decide p) := fun h => by rw [decide_eq_true h]
    have dF : ∀ {p : Prop} [Decidable p], ¬ p → AV.bool false = .bool (decide p) := fun h => by rw [decide_eq_false h]
    refine ab 1000 rfl trivial ?_
    refine S_split 3 (fun fr σ => Weak fr [(0, .int .u8 (n : Nat)), (8, .bool (decide (97 ≤ n ∧ n ≤ 122)))] ∧ σ = []) ?_ ?_
    · refine S_guard rfl rfl rfl rfl (fun h => ?_) (fun h => ?_)
      · have h : (97 : Int) ≤ ((n : Nat) : Int) := of_decide_eq_true h
        refine ab 1000 rfl trivial ?_
        exact S_inv ⟨(.cons rfl (.cons (dI (by omega)) (.nil _))), rfl⟩
      · have h : ¬ (97 : Int) ≤ ((n : Nat) : Int) := of_decide_eq_false h
        refine ab 1000 rfl trivial ?_
        exact S_inv ⟨(.cons rfl (.cons (dF (by omega)) (.nil _))), rfl⟩
    rintro fr σ ⟨hw, rfl⟩
    refine S_opsW hw ?_
    refine ab 1000 rfl trivial ?_
    refine S_split 7 (fun fr σ => Weak fr [(0, .int .u8 (n : Nat)), (16, .bool (decide ((97 ≤ n ∧ n ≤ 122) ∨ (65 ≤ n ∧ n ≤ 90))))] ∧ σ = []) ?_ ?_
    · refine S_guard rfl rfl rfl rfl (fun h => ?_) (fun h => ?_)
      · have h : 97 ≤ n ∧ n ≤ 122 := of_decide_eq_true h
        refine ab 1000 rfl trivial ?_
        exact S_inv ⟨(.cons rfl (.cons (dT (.inl h)) (.nil _))), rfl⟩
      · have h : ¬ (97 ≤ n ∧ n ≤ 122) := of_decide_eq_false h
        refine ab 1000 rfl trivial ?_
        refine S_guard rfl rfl rfl rfl (fun h2 => ?_) (fun h2 => ?_)
        · have h2 : (65 : Int) ≤ ((n : Nat) : Int) := of_decide_eq_true h2
          refine ab 1000 rfl trivial ?_
          exact S_inv ⟨(.cons rfl (.cons (dI (by omega)) (.nil _))), rfl⟩
        · have h2 : ¬ (65 : Int) ≤ ((n : Nat) : Int) := of_decide_eq_false h2
          refine ab 1000 rfl trivial ?_
          exact S_inv ⟨(.cons rfl (.cons (dF (by omega)) (.nil _))), rfl⟩
    rintro fr σ ⟨hw, rfl⟩
    refine S_opsW hw ?_
    refine ab 1000 rfl trivial ?_
    refine S_guard rfl rfl rfl rfl (fun h => ?_) (fun h => ?_)
    · have h : (97 ≤ n ∧ n ≤ 122) ∨ (65 ≤ n ∧ n ≤ 90) := of_decide_eq_true h
      refine ab 1000 rfl trivial ?_
      refine S_retc .bool rfl trivial ?_
      rw [← Bool.decide_or, decide_eq_true h]; rfl
    · have h : ¬ ((97 ≤ n ∧ n ≤ 122) ∨ (65 ≤ n ∧ n ≤ 90)) := of_decide_eq_false h
      refine ab 1000 rfl trivial ?_
      refine S_retc .bool rfl trivial ?_
      rw [← Bool.decide_or, decide_eq_false h, Bool.false_or]
      show AV.bool (((n : Nat) : Int) == 95) = _
      congr 1
      rw [Bool.eq_iff_iff, beq_iff_eq, decide_eq_true_iff]; omega

end Go.Proofs.YtkgmbnjdeokdkaaDoor
