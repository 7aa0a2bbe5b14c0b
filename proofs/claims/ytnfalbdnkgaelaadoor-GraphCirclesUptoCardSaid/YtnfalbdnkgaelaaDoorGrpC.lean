/-
  Texts of our own, in one file.
-/
import Derived.Test.YtnfalbdnkgaelaaDoorGrpB
import Derived.Sort.Walk0
section
set_option linter.unusedVariables false
set_option linter.unusedSimpArgs false
set_option maxRecDepth 20000
namespace Go.Proofs.YtnfalbdnkgaelaaDoor
open Go Go.Ab
def nameP (c : Nat) : Prop := (97 ≤ c ∧ c ≤ 122) ∨ (48 ≤ c ∧ c ≤ 57) ∨ c = 95 ∨ c = 45 ∨ c = 46
instance (c : Nat) : Decidable (nameP c) := by unfold nameP; infer_instance
def nameB (c : UInt8) : Bool := decide (nameP c.toNat)
def isName (s : List UInt8) : Bool := s.all nameB && (decide (1 ≤ s.length) && (decide (s.length ≤ 20) && (s != [46] && s != [46, 46])))
theorem takeN {p : UInt8 → Bool} {s : List UInt8} {i : Nat} (h : i < s.length) (ha : (s.take i).all p = true) (hp : p s[i] = true) : (s.take (i + 1)).all p = true := by
  rw [List.take_succ_eq_append_getElem h, List.all_append, ha]
  simp [hp]
theorem notName {s : List UInt8} {i : Nat} (h : i < s.length) (hp : ¬ nameP s[i].toNat) : isName s = false := by
  have : s.all nameB = false := by
    rw [List.all_eq_false]
    exact ⟨s[i], List.getElem_mem h, by simp [nameB, hp]⟩
  rw [isName, this]; rfl
theorem mark_iff {r : Int} : 0 ≤ markAt r ↔ r = 95 ∨ r = 45 ∨ r = 46 := by
  unfold markAt
  split
  · exact ⟨fun _ => .inl (by assumption), fun _ => by decide⟩
  · split
    · exact ⟨fun _ => .inr (.inl (by assumption)), fun _ => by decide⟩
    · split
      · exact ⟨fun _ => .inr (.inr (by assumption)), fun _ => by decide⟩
      · exact ⟨fun h => absurd h (by decide), fun h => by omega⟩
theorem isName_ok (s : List UInt8) (hs : s.length ≤ 9223372036854775807) : Calc cx 56 [.str s] (.bool (isName s)) :=
  pure_intro (fun a w => Tryd.call56 a w) Tryd.func56 rfl Tryd.ntmps56 rfl .bool fun B => by
    refine ab 1000 rfl trivial ?_
    refine S_while (α := Nat) (fun i => [(0, .str s), (6, .ptr 0 0 0)]) (fun i => [(0, some (.siter s i))]) (fun i => i ≤ s.length ∧ (s.take i).all nameB = true) (fun i => s.length - i) 0
      ⟨Nat.zero_le _, rfl⟩ (.cons rfl (.cons rfl (.nil _))) rfl ?_
    rintro i ⟨hi, hN⟩
    refine ab 1000 rfl trivial ?_
    refine S_next rfl rfl rfl rfl rfl (fun hil => ?_) (fun hge => ?_)
    · refine ab 1000 rfl trivial ?_
      refine S_cond rfl (fun _ => ?_) (fun h => by cases h)
      refine ab 1000 rfl trivial ?_
      obtain ⟨r, wd, hrw, hhex, hwd⟩ : ∃ (r wd : Nat), decL s i = (r, wd) ∧ (nameP s[i].toNat ↔ (97 ≤ r ∧ r ≤ 122) ∨ (48 ≤ r ∧ r ≤ 57) ∨ 0 ≤ markAt r) ∧ (nameP s[i].toNat → wd = 1) := by
        by_cases hc : s[i].toNat < 128
        · exact ⟨_, _, decL_lt hil hc, by rw [mark_iff]; unfold nameP; omega, fun _ => rfl⟩
        · have h1 := decL_ge hil (by omega)
          have h2 : ¬ nameP s[i].toNat := by unfold nameP; omega
          obtain ⟨q1, q2, hq⟩ : ∃ a b, decL s i = (a, b) := ⟨_, _, rfl⟩
          rw [hq] at h1
          have h1 : 128 ≤ q1 := h1
          exact ⟨q1, q2, hq, ⟨fun h => absurd h h2, fun h => by rw [mark_iff] at h; omega⟩, fun h => absurd h h2⟩
      rw [hrw]
      refine S_split 3 (fun fr σ => Weak fr [(0, .str s), (6, .ptr 0 0 0), (4, .int .i32 (r : Nat)), (15, .bool (decide (¬ (97 ≤ r ∧ r ≤ 122))))] ∧ σ = [(0, some (.siter s (i + wd)))]) ?_ ?_
      · refine S_guard rfl rfl rfl rfl (fun h => ?_) (fun h => ?_)
        · have h : (r : Int) < 97 := of_decide_eq_true h
          refine ab 1000 rfl trivial ?_
          exact S_inv ⟨.cons rfl (.cons rfl (.cons rfl (.cons (by show AV.bool true = _; rw [decide_eq_true (by omega)]) (.nil _)))), rfl⟩
        · have h : ¬ (r : Int) < 97 := of_decide_eq_false h
          refine ab 1000 rfl trivial ?_
          exact S_inv ⟨.cons rfl (.cons rfl (.cons rfl (.cons (by show AV.bool (decide ((122 : Int) < r)) = _; exact congrArg AV.bool (decide_eq_decide.2 (by omega))) (.nil _)))), rfl⟩
      rintro fr σ ⟨hw, rfl⟩
      refine S_opsW hw ?_
      refine ab 1000 rfl trivial ?_
      refine S_split 7 (fun fr σ => Weak fr [(0, .str s), (6, .ptr 0 0 0), (4, .int .i32 (r : Nat)), (23, .bool (decide (¬ (97 ≤ r ∧ r ≤ 122) ∧ ¬ (48 ≤ r ∧ r ≤ 57))))] ∧ σ = [(0, some (.siter s (i + wd)))]) ?_ ?_
      · refine S_guard rfl rfl rfl rfl (fun h => ?_) (fun h => ?_)
        · have h : ¬ (97 ≤ r ∧ r ≤ 122) := of_decide_eq_true h
          refine ab 1000 rfl trivial ?_
          refine S_guard rfl rfl rfl rfl (fun h2 => ?_) (fun h2 => ?_)
          · have h2 : (r : Int) < 48 := of_decide_eq_true h2
            refine ab 1000 rfl trivial ?_
            exact S_inv ⟨.cons rfl (.cons rfl (.cons rfl (.cons (by show AV.bool true = _; rw [decide_eq_true (by omega)]) (.nil _)))), rfl⟩
          · have h2 : ¬ (r : Int) < 48 := of_decide_eq_false h2
            refine ab 1000 rfl trivial ?_
            exact S_inv ⟨.cons rfl (.cons rfl (.cons rfl (.cons (by show AV.bool (decide ((57 : Int) < r)) = _; exact congrArg AV.bool (decide_eq_decide.2 (by omega))) (.nil _)))), rfl⟩
        · have h : ¬ ¬ (97 ≤ r ∧ r ≤ 122) := of_decide_eq_false h
          refine ab 1000 rfl trivial ?_
          exact S_inv ⟨.cons rfl (.cons rfl (.cons rfl (.cons (by show AV.bool false = _; rw [decide_eq_false (by omega)]) (.nil _)))), rfl⟩
      rintro fr σ ⟨hw, rfl⟩
      refine S_opsW hw ?_
      refine ab 1000 rfl trivial ?_
      have no : ¬ nameP s[i].toNat → AV.bool false = .bool (isName s) := fun h => by rw [notName hil h]
      have yes : nameP s[i].toNat → nameB s[i] = true := fun h => decide_eq_true h
      refine S_guard rfl rfl rfl rfl (fun h => ?_) (fun h => ?_)
      · have h : ¬ (97 ≤ r ∧ r ≤ 122) ∧ ¬ (48 ≤ r ∧ r ≤ 57) := of_decide_eq_true h
        refine ab 1000 rfl trivial ?_
        refine S_pure rfl rfl rfl (containsRune_ok r) (.cons (.refl .str) (.cons (.refl .int) (.nil _))) ?_
        refine ab 1000 rfl trivial ?_
        refine S_cond rfl (fun h3 => ?_) (fun h3 => ?_)
        · have h3 : (!decide (0 ≤ markAt r)) = true := h3
          have h4 : ¬ 0 ≤ markAt r := by simpa using h3
          refine ab 1000 rfl trivial ?_
          exact S_retc .bool rfl trivial (no (fun hn => by have := hhex.1 hn; omega))
        · have h3 : (!decide (0 ≤ markAt r)) = false := h3
          have h4 : 0 ≤ markAt r := by simpa using h3
          have hn := hhex.2 (.inr (.inr h4))
          have := hwd hn
          subst this
          refine ab 1000 rfl trivial ?_
          exact S_round (i + 1) (by show s.length - (i + 1) < s.length - i; omega) ⟨hil, takeN hil hN (yes hn)⟩ (.cons rfl (.cons rfl (.nil _))) rfl
      · have h : ¬ (¬ (97 ≤ r ∧ r ≤ 122) ∧ ¬ (48 ≤ r ∧ r ≤ 57)) := of_decide_eq_false h
        have hn := hhex.2 (by omega)
        have := hwd hn
        subst this
        refine ab 1000 rfl trivial ?_
        refine S_cond rfl (fun h => by cases h) (fun _ => ?_)
        refine ab 1000 rfl trivial ?_
        exact S_round (i + 1) (by show s.length - (i + 1) < s.length - i; omega) ⟨hil, takeN hil hN (yes hn)⟩ (.cons rfl (.cons rfl (.nil _))) rfl
    · have hil : i = s.length := by omega
      refine ab 1000 rfl trivial ?_
      refine S_cond rfl (fun h => by cases h) (fun _ => ?_)
      refine ab 1000 rfl trivial ?_
      rw [hil, List.take_length] at hN
      refine S_guard rfl rfl rfl rfl (fun h => ?_) (fun h => ?_)
      · have h : (1 : Int) ≤ (s.length : Nat) := of_decide_eq_true h
        refine ab 1000 rfl trivial ?_
        refine S_guard rfl rfl rfl rfl (fun h2 => ?_) (fun h2 => ?_)
        · have h2 : (s.length : Int) ≤ 20 := of_decide_eq_true h2
          refine ab 1000 rfl trivial ?_
          refine S_guard rfl rfl rfl rfl (fun h3 => ?_) (fun h3 => ?_)
          · refine ab 1000 rfl trivial ?_
            refine S_retc .bool rfl trivial ?_
            show AV.bool (!(s == [46, 46])) = _
            have h3 : (!(s == [46])) = true := h3
            rw [isName, hN, decide_eq_true (p := 1 ≤ s.length) (by omega), decide_eq_true (p := s.length ≤ 20) (by omega), bne, h3]; rfl
          · refine ab 1000 rfl trivial ?_
            refine S_retc .bool rfl trivial ?_
            have h3 : (!(s == [46])) = false := h3
            rw [isName, hN, decide_eq_true (p := 1 ≤ s.length) (by omega), decide_eq_true (p := s.length ≤ 20) (by omega), bne, h3]; rfl
        · have h2 : ¬ (s.length : Int) ≤ 20 := of_decide_eq_false h2
          refine ab 1000 rfl trivial ?_
          refine S_guard rfl rfl rfl rfl (fun h => by cases h) (fun _ => ?_)
          refine ab 1000 rfl trivial ?_
          refine S_retc .bool rfl trivial ?_
          rw [isName, hN, decide_eq_false (p := s.length ≤ 20) (by omega)]; simp; rfl
      · have h : ¬ (1 : Int) ≤ (s.length : Nat) := of_decide_eq_false h
        refine ab 1000 rfl trivial ?_
        refine S_guard rfl rfl rfl rfl (fun h => by cases h) (fun _ => ?_)
        refine ab 1000 rfl trivial ?_
        refine S_guard rfl rfl rfl rfl (fun h => by cases h) (fun _ => ?_)
        refine ab 1000 rfl trivial ?_
        refine S_retc .bool rfl trivial ?_
        rw [isName, hN, decide_eq_false (p := 1 ≤ s.length) (by omega)]; rfl
theorem IsName_ok (s : List UInt8) (hs : s.length ≤ 9223372036854775807) : Calc cx 37 [.str s] (.bool (isName s)) :=
  pure_intro (fun a w => Tryd.call37 a w) Tryd.func37 rfl Tryd.ntmps37 rfl .bool fun B => by
    refine ab 1000 rfl trivial ?_
    refine S_while (α := Nat) (fun i => [(0, .str s), (3, .int .i64 (i : Nat))]) (fun i => []) (fun i => i ≤ s.length ∧ (s.take i).all nameB = true) (fun i => s.length - i) 0
      ⟨Nat.zero_le _, rfl⟩ (.cons rfl (.cons rfl (.nil _))) rfl ?_
    rintro i ⟨hi, hN⟩
    refine ab 1000 rfl trivial ?_
    refine S_dec rfl (fun hil => ?_) (fun hil => ?_)
    · have hil : i < s.length := Int.ofNat_lt.1 hil
      refine ab 1000 rfl ⟨Int.ofNat_lt.2 hil, by omega, trivial⟩ ?_
      obtain ⟨c, hc⟩ : ∃ c : Nat, c = s[i].toNat := ⟨_, rfl⟩
      have hget : s.getD ((i : Int)).toNat 0 = s[i] := by rw [Int.toNat_natCast]; simp [List.getD, hil]
      refine S_opsW (fr' := [(0, .str s), (3, .int .i64 (i : Nat)), (4, .int .u8 (c : Nat)), (16, .bool (decide (97 ≤ (c : Int))))]) (.cons rfl (.cons rfl (.cons ?_ (.cons ?_ (.nil _))))) ?_
      · show AV.int .u8 (((s.getD ((i : Int)).toNat 0).toNat : Nat) : Int) = _
        rw [hget, hc]
      · show AV.bool (decide (97 ≤ ((((s.getD ((i : Int)).toNat 0).toNat : Nat)) : Int))) = _
        rw [hget, hc]
      refine S_split 3 (fun fr σ => Weak fr [(0, .str s), (3, .int .i64 (i : Nat)), (4, .int .u8 (c : Nat)), (19, .bool (decide (97 ≤ c ∧ c ≤ 122)))] ∧ σ = []) ?_ ?_
      · refine S_guard rfl rfl rfl rfl (fun h => ?_) (fun h => ?_)
        · have h : (97 : Int) ≤ c := of_decide_eq_true h
          refine ab 1000 rfl trivial ?_
          exact S_inv ⟨.cons rfl (.cons rfl (.cons rfl (.cons (by show AV.bool (decide ((c : Int) ≤ 122)) = _; exact congrArg AV.bool (decide_eq_decide.2 (by omega))) (.nil _)))), rfl⟩
        · have h : ¬ (97 : Int) ≤ c := of_decide_eq_false h
          refine ab 1000 rfl trivial ?_
          exact S_inv ⟨.cons rfl (.cons rfl (.cons rfl (.cons (by show AV.bool false = _; rw [decide_eq_false (by omega)]) (.nil _)))), rfl⟩
      rintro fr σ ⟨hw, rfl⟩
      refine S_opsW hw ?_
      refine ab 1000 rfl trivial ?_
      refine S_split 7 (fun fr σ => Weak fr [(0, .str s), (3, .int .i64 (i : Nat)), (4, .int .u8 (c : Nat)), (27, .bool (decide ((97 ≤ c ∧ c ≤ 122) ∨ (48 ≤ c ∧ c ≤ 57))))] ∧ σ = []) ?_ ?_
      · refine S_guard rfl rfl rfl rfl (fun h => ?_) (fun h => ?_)
        · have h : (97 ≤ c ∧ c ≤ 122) := of_decide_eq_true h
          refine ab 1000 rfl trivial ?_
          exact S_inv ⟨.cons rfl (.cons rfl (.cons rfl (.cons (by show AV.bool true = _; rw [decide_eq_true (by omega)]) (.nil _)))), rfl⟩
        · have h : ¬ (97 ≤ c ∧ c ≤ 122) := of_decide_eq_false h
          refine ab 1000 rfl trivial ?_
          refine S_guard rfl rfl rfl rfl (fun h2 => ?_) (fun h2 => ?_)
          · have h2 : (48 : Int) ≤ c := of_decide_eq_true h2
            refine ab 1000 rfl trivial ?_
            exact S_inv ⟨.cons rfl (.cons rfl (.cons rfl (.cons (by show AV.bool (decide ((c : Int) ≤ 57)) = _; exact congrArg AV.bool (decide_eq_decide.2 (by omega))) (.nil _)))), rfl⟩
          · have h2 : ¬ (48 : Int) ≤ c := of_decide_eq_false h2
            refine ab 1000 rfl trivial ?_
            exact S_inv ⟨.cons rfl (.cons rfl (.cons rfl (.cons (by show AV.bool false = _; rw [decide_eq_false (by omega)]) (.nil _)))), rfl⟩
      rintro fr σ ⟨hw, rfl⟩
      refine S_opsW hw ?_
      have beqd : ∀ k : Nat, ((c : Int) == (k : Int)) = decide (c = k) := fun k => by
        by_cases h : c = k
        · subst h; simp
        · have : ¬ (c : Int) = (k : Int) := by omega
          rw [decide_eq_false h, beq_eq_false_iff_ne.2 this]
      refine ab 1000 rfl trivial ?_
      refine S_split 3 (fun fr σ => Weak fr [(0, .str s), (3, .int .i64 (i : Nat)), (4, .int .u8 (c : Nat)), (31, .bool (decide (((97 ≤ c ∧ c ≤ 122) ∨ (48 ≤ c ∧ c ≤ 57)) ∨ c = 95)))] ∧ σ = []) ?_ ?_
      · refine S_guard rfl rfl rfl rfl (fun h => ?_) (fun h => ?_)
        · have h : (97 ≤ c ∧ c ≤ 122) ∨ (48 ≤ c ∧ c ≤ 57) := of_decide_eq_true h
          refine ab 1000 rfl trivial ?_
          exact S_inv ⟨.cons rfl (.cons rfl (.cons rfl (.cons (by show AV.bool true = _; rw [decide_eq_true (by omega)]) (.nil _)))), rfl⟩
        · have h : ¬ ((97 ≤ c ∧ c ≤ 122) ∨ (48 ≤ c ∧ c ≤ 57)) := of_decide_eq_false h
          refine ab 1000 rfl trivial ?_
          exact S_inv ⟨.cons rfl (.cons rfl (.cons rfl (.cons (by show AV.bool ((c : Int) == ((95 : Nat) : Int)) = _; rw [beqd]; exact congrArg AV.bool (decide_eq_decide.2 (by omega))) (.nil _)))), rfl⟩
      rintro fr σ ⟨hw, rfl⟩
      refine S_opsW hw ?_
      refine ab 1000 rfl trivial ?_
      refine S_split 3 (fun fr σ => Weak fr [(0, .str s), (3, .int .i64 (i : Nat)), (4, .int .u8 (c : Nat)), (35, .bool (decide (((97 ≤ c ∧ c ≤ 122) ∨ (48 ≤ c ∧ c ≤ 57)) ∨ c = 95 ∨ c = 45)))] ∧ σ = []) ?_ ?_
      · refine S_guard rfl rfl rfl rfl (fun h => ?_) (fun h => ?_)
        · have h : ((97 ≤ c ∧ c ≤ 122) ∨ (48 ≤ c ∧ c ≤ 57)) ∨ c = 95 := of_decide_eq_true h
          refine ab 1000 rfl trivial ?_
          exact S_inv ⟨.cons rfl (.cons rfl (.cons rfl (.cons (by show AV.bool true = _; rw [decide_eq_true (by omega)]) (.nil _)))), rfl⟩
        · have h : ¬ (((97 ≤ c ∧ c ≤ 122) ∨ (48 ≤ c ∧ c ≤ 57)) ∨ c = 95) := of_decide_eq_false h
          refine ab 1000 rfl trivial ?_
          exact S_inv ⟨.cons rfl (.cons rfl (.cons rfl (.cons (by show AV.bool ((c : Int) == ((45 : Nat) : Int)) = _; rw [beqd]; exact congrArg AV.bool (decide_eq_decide.2 (by omega))) (.nil _)))), rfl⟩
      rintro fr σ ⟨hw, rfl⟩
      refine S_opsW hw ?_
      refine ab 1000 rfl trivial ?_
      refine S_split 3 (fun fr σ => Weak fr [(0, .str s), (3, .int .i64 (i : Nat)), (39, .bool (decide (nameP c)))] ∧ σ = []) ?_ ?_
      · refine S_guard rfl rfl rfl rfl (fun h => ?_) (fun h => ?_)
        · have h : ((97 ≤ c ∧ c ≤ 122) ∨ (48 ≤ c ∧ c ≤ 57)) ∨ c = 95 ∨ c = 45 := of_decide_eq_true h
          refine ab 1000 rfl trivial ?_
          exact S_inv ⟨.cons rfl (.cons rfl (.cons (by show AV.bool true = _; rw [decide_eq_true (by unfold nameP; omega)]) (.nil _))), rfl⟩
        · have h : ¬ (((97 ≤ c ∧ c ≤ 122) ∨ (48 ≤ c ∧ c ≤ 57)) ∨ c = 95 ∨ c = 45) := of_decide_eq_false h
          refine ab 1000 rfl trivial ?_
          exact S_inv ⟨.cons rfl (.cons rfl (.cons (by show AV.bool ((c : Int) == ((46 : Nat) : Int)) = _; rw [beqd]; exact congrArg AV.bool (decide_eq_decide.2 (by unfold nameP; omega))) (.nil _))), rfl⟩
      rintro fr σ ⟨hw, rfl⟩
      refine S_opsW hw ?_
      refine ab 1000 rfl trivial ?_
      refine S_cond rfl (fun h => ?_) (fun h => ?_)
      · have h : (!decide (nameP c)) = true := h
        refine ab 1000 rfl trivial ?_
        refine S_retc .bool rfl trivial ?_
        rw [notName hil (by rw [← hc]; simpa using h)]; rfl
      · have h : (!decide (nameP c)) = false := h
        refine ab 1000 rfl trivial ?_
        refine S_round (i + 1) (by show s.length - (i + 1) < s.length - i; omega) ⟨hil, takeN hil hN (by unfold nameB; rw [← hc]; simpa using h)⟩ (.cons rfl (.cons ?_ (.nil _))) rfl
        show AV.int .i64 (IntKind.i64.wrap ((i : Int) + 1)) = _
        exact congrArg _ (w64 rfl (by omega))
    · have hil : i = s.length := by have : ¬ (i : Int) < (s.length : Nat) := hil; omega
      refine ab 1000 rfl trivial ?_
      rw [hil, List.take_length] at hN
      refine S_guard rfl rfl rfl rfl (fun h => ?_) (fun h => ?_)
      · have h : (1 : Int) ≤ (s.length : Nat) := of_decide_eq_true h
        refine ab 1000 rfl trivial ?_
        refine S_guard rfl rfl rfl rfl (fun h2 => ?_) (fun h2 => ?_)
        · have h2 : (s.length : Int) ≤ 20 := of_decide_eq_true h2
          refine ab 1000 rfl trivial ?_
          refine S_guard rfl rfl rfl rfl (fun h3 => ?_) (fun h3 => ?_)
          · refine ab 1000 rfl trivial ?_
            refine S_retc .bool rfl trivial ?_
            show AV.bool (!(s == [46, 46])) = _
            have h3 : (!(s == [46])) = true := h3
            rw [isName, hN, decide_eq_true (p := 1 ≤ s.length) (by omega), decide_eq_true (p := s.length ≤ 20) (by omega), bne, h3]; rfl
          · refine ab 1000 rfl trivial ?_
            refine S_retc .bool rfl trivial ?_
            have h3 : (!(s == [46])) = false := h3
            rw [isName, hN, decide_eq_true (p := 1 ≤ s.length) (by omega), decide_eq_true (p := s.length ≤ 20) (by omega), bne, h3]; rfl
        · have h2 : ¬ (s.length : Int) ≤ 20 := of_decide_eq_false h2
          refine ab 1000 rfl trivial ?_
          refine S_guard rfl rfl rfl rfl (fun h => by cases h) (fun _ => ?_)
          refine ab 1000 rfl trivial ?_
          refine S_retc .bool rfl trivial ?_
          rw [isName, hN, decide_eq_false (p := s.length ≤ 20) (by omega)]; simp; rfl
      · have h : ¬ (1 : Int) ≤ (s.length : Nat) := of_decide_eq_false h
        refine ab 1000 rfl trivial ?_
        refine S_guard rfl rfl rfl rfl (fun h => by cases h) (fun _ => ?_)
        refine ab 1000 rfl trivial ?_
        refine S_guard rfl rfl rfl rfl (fun h => by cases h) (fun _ => ?_)
        refine ab 1000 rfl trivial ?_
        refine S_retc .bool rfl trivial ?_
        rw [isName, hN, decide_eq_false (p := 1 ≤ s.length) (by omega)]; rfl
end Go.Proofs.YtnfalbdnkgaelaaDoor
end
section
set_option linter.unusedVariables false
set_option linter.unusedSimpArgs false
set_option maxRecDepth 20000
namespace Go.Proofs.YtnfalbdnkgaelaaDoor
open Go Go.Ab
def texts (l : List (List UInt8)) : List AV := l.map .str
theorem texts_free (l : List (List UInt8)) : ∀ x ∈ texts l, Free true x := by
  intro x hx
  obtain ⟨y, _, rfl⟩ := List.mem_map.1 hx
  exact .str
theorem texts_one (l : List (List UInt8)) : ∀ x ∈ texts l, x.one = true := by
  intro x hx
  obtain ⟨y, _, rfl⟩ := List.mem_map.1 hx
  rfl
theorem texts_any {st : Bool} (l : List (List UInt8)) : ∀ x ∈ texts l, Free st x := by
  intro x hx
  obtain ⟨y, _, rfl⟩ := List.mem_map.1 hx
  exact .str
theorem texts_len (l : List (List UInt8)) : (texts l).length = l.length := by simp [texts]
theorem texts_get {l : List (List UInt8)} {i : Nat} (h : i < l.length) : (texts l)[i]? = some (.str l[i]) := by simp [texts, h]
end Go.Proofs.YtnfalbdnkgaelaaDoor
end
section
set_option linter.unusedVariables false
set_option linter.unusedSimpArgs false
set_option maxRecDepth 20000
namespace Go.Proofs.YtnfalbdnkgaelaaDoor
open Go Go.Ab
structure Tg where
  name : List UInt8
  srcs : List (List UInt8)
  needs : List (List UInt8)
  outs : List (List UInt8)
  cmd : List (List UInt8)
def lsA (st : Bool) (l : List (List UInt8)) : AV := .sl st false 1 (texts l)
def tgA (st : Bool) (t : Tg) : AV := .agg [.str t.name, lsA st t.srcs, lsA st t.needs, lsA st t.outs, lsA st t.cmd]
def tgs (st : Bool) (l : List Tg) : List AV := l.map (tgA st)
def nmsG (l : List Tg) : List Nm := l.map Tg.name
def ndT : List Tg → Nm → List Nm
  | [], _ => []
  | t :: r, k => if t.name = k then t.needs else ndT r k
def nmE (l : List Tg) : Nat :=
  if 60 < l.length then 2
  else if l.all (fun t => isName t.name) = false then 1
  else if (decide (nmsG l).Nodup) = false then 6
  else if l.all (fun t => t.needs.all fun k => decide (k ∈ nmsG l)) = false then 5
  else 0
theorem tgs_len (st : Bool) (l : List Tg) : (tgs st l).length = l.length := by simp [tgs]
theorem tgs_get {st : Bool} {l : List Tg} {i : Nat} (h : i < l.length) : (tgs st l)[i]? = some (tgA st l[i]) := by simp [tgs, h]
theorem lsA_any {st b : Bool} (h : st = true → b = true) (l : List (List UInt8)) : Free st (lsA b l) := .sl h (texts_any l)
theorem tgA_any {st b : Bool} (h : st = true → b = true) (t : Tg) : Free st (tgA b t) := .agg (by
  intro x hx
  simp only [List.mem_cons, List.not_mem_nil, or_false] at hx
  rcases hx with rfl | rfl | rfl | rfl | rfl
  · exact .str
  all_goals exact lsA_any h _)
theorem tgs_any {st b : Bool} (h : st = true → b = true) (l : List Tg) : ∀ x ∈ tgs b l, Free st x := fun x hx => by
  obtain ⟨t, _, rfl⟩ := List.mem_map.1 hx; exact tgA_any h t
theorem nms_len (l : List Tg) : (nmsG l).length = l.length := by simp [nmsG]
theorem nms_get {l : List Tg} {i : Nat} (h : i < l.length) : (nmsG l)[i]'(by rw [nms_len]; exact h) = l[i].name := by simp [nmsG]
theorem nms_take (l : List Tg) (i : Nat) : nmsG (l.take i) = (nmsG l).take i := by simp [nmsG, List.map_take]
theorem nms_snoc {l : List Tg} {i : Nat} (h : i < l.length) : nmsG (l.take (i + 1)) = nmsG (l.take i) ++ [l[i].name] := by
  rw [List.take_succ_eq_append_getElem h]; unfold nmsG; rw [List.map_append]; rfl
theorem ndT_out {k : Nm} : ∀ {l : List Tg}, k ∉ nmsG l → ndT l k = []
  | [], _ => rfl
  | t :: r, h => by
    have h1 : t.name ≠ k := fun e => h (by rw [← e]; exact List.mem_cons_self ..)
    have h2 : k ∉ nmsG r := fun e => h (List.mem_cons_of_mem _ e)
    rw [ndT, if_neg h1]; exact ndT_out h2
theorem ndT_snoc (t : Tg) (k : Nm) : ∀ {l : List Tg}, ndT (l ++ [t]) k = if k ∈ nmsG l then ndT l k else if t.name = k then t.needs else []
  | [] => by simp [nmsG, ndT]
  | a :: l => by
    have ih := ndT_snoc t k (l := l)
    show (if a.name = k then a.needs else ndT (l ++ [t]) k) = _
    by_cases h : a.name = k
    · rw [if_pos h, if_pos (by rw [← h]; exact List.mem_cons_self ..)]
      show _ = if a.name = k then a.needs else ndT l k
      rw [if_pos h]
    · rw [if_neg h, ih]
      have : k ∈ nmsG (a :: l) ↔ k ∈ nmsG l := by
        show k ∈ a.name :: nmsG l ↔ _
        rw [List.mem_cons]
        exact ⟨fun h2 => h2.elim (fun e => absurd e.symm h) id, .inr⟩
      by_cases hm : k ∈ nmsG l
      · rw [if_pos hm, if_pos (this.2 hm)]
        show _ = if a.name = k then a.needs else ndT l k
        rw [if_neg h]
      · rw [if_neg hm, if_neg (fun e => hm (this.1 e))]
theorem ndT_at : ∀ {l : List Tg} {i : Nat} (h : i < l.length), (nmsG l).Nodup → ndT l l[i].name = l[i].needs
  | t :: r, 0, h, hn => by show (if t.name = t.name then _ else _) = _; rw [if_pos rfl]; rfl
  | t :: r, i + 1, h, hn => by
    obtain ⟨h1, h2⟩ := List.nodup_cons.1 (show (t.name :: nmsG r).Nodup from hn)
    have hi : i < r.length := by simpa using h
    show (if t.name = r[i].name then _ else ndT r r[i].name) = r[i].needs
    rw [if_neg (fun e => h1 (by rw [e]; exact List.mem_map_of_mem (List.getElem_mem hi)))]
    exact ndT_at hi h2
theorem nms_dup {l : List Tg} {i : Nat} (hi : i < l.length) (h : l[i].name ∈ nmsG (l.take i)) : ¬ (nmsG l).Nodup := fun hn => by
  have h1 : (nmsG (l.take (i + 1))).Nodup := by rw [nms_take]; exact hn.sublist (List.take_sublist _ _)
  rw [nms_snoc hi] at h1
  exact (List.nodup_append.1 h1).2.2 _ h _ (List.mem_singleton.2 rfl) rfl
structure NmOk (l : List Tg) : Prop where
  len : l.length ≤ 60
  nam : ∀ t ∈ l, isName t.name = true
  nd : (nmsG l).Nodup
  cl : ∀ t ∈ l, ∀ k ∈ t.needs, k ∈ nmsG l
theorem nmE_ok {l : List Tg} : nmE l = 0 ↔ NmOk l := by
  unfold nmE
  constructor
  · intro h
    split at h
    · cases h
    rename_i h1
    split at h
    · cases h
    rename_i h2
    split at h
    · cases h
    rename_i h3
    split at h
    · cases h
    rename_i h4
    refine ⟨by omega, ?_, ?_, ?_⟩
    · simpa using h2
    · simpa using h3
    · simpa using h4
  · rintro ⟨h1, h2, h3, h4⟩
    rw [if_neg (by omega), if_neg (by simpa using h2), if_neg (by simpa using h3), if_neg (by simpa using h4)]
theorem NmOk.ndT {l : List Tg} (h : NmOk l) : ∀ n ∈ nmsG l, ∀ k ∈ ndT l n, k ∈ nmsG l := fun n hn k hk => by
  obtain ⟨t, ht, rfl⟩ := List.mem_map.1 hn
  obtain ⟨i, hi, rfl⟩ := List.getElem_of_mem ht
  rw [ndT_at hi h.nd] at hk
  exact h.cl _ ht k hk
end Go.Proofs.YtnfalbdnkgaelaaDoor
end
section
set_option linter.unusedVariables false
set_option linter.unusedSimpArgs false
set_option maxRecDepth 20000
namespace Go.Proofs.YtnfalbdnkgaelaaDoor
open Go Go.Ab
def usO (nd : Nm → List Nm) (vis : List Nm) (k : Nm) : List Nm := vis.flatMap fun n => List.replicate ((nd n).count k) n
theorem usO_snoc (nd : Nm → List Nm) (vis : List Nm) (n k : Nm) : usO nd (vis ++ [n]) k = usO nd vis k ++ List.replicate ((nd n).count k) n := by
  unfold usO; rw [List.flatMap_append]; simp
theorem usO_count {nd : Nm → List Nm} (k x : Nm) : ∀ {vis : List Nm}, vis.Nodup → (usO nd vis k).count x = if x ∈ vis then (nd x).count k else 0
  | [], _ => rfl
  | n :: vis, hn => by
    obtain ⟨h1, h2⟩ := List.nodup_cons.1 hn
    have ih := usO_count (nd := nd) k x h2
    have : usO nd (n :: vis) k = List.replicate ((nd n).count k) n ++ usO nd vis k := by unfold usO; rw [List.flatMap_cons]
    rw [this, List.count_append, ih, List.count_replicate]
    by_cases hx : x = n
    · subst hx
      rw [if_neg h1, if_pos (List.mem_cons_self ..)]; simp
    · have : (n == x) = false := by simpa using Ne.symm hx
      rw [this]
      by_cases hv : x ∈ vis
      · rw [if_pos hv, if_pos (List.mem_cons_of_mem _ hv)]; simp
      · rw [if_neg hv, if_neg (show ¬ x ∈ n :: vis from fun h => by rcases List.mem_cons.1 h with h | h; exact hx h; exact hv h)]; simp
structure OrdI (nd : Nm → List Nm) (sm out h : List Nm) (W : Nm → Nat) : Prop where
  hN : h.Nodup
  hm : ∀ x, x ∈ h ↔ x ∈ rdyG nd sm out
  hW : ∀ x ∈ sm, W x = (nd x).countP fun k => decide (k ∉ out)
def decW (W : Nm → Nat) (p : List Nm) : Nm → Nat := fun x => W x - p.count x
structure InI (nd : Nm → List Nm) (sm out : List Nm) (b : Nm) (W : Nm → Nat) (p h : List Nm) : Prop where
  hN : h.Nodup
  hm : ∀ x, x ∈ h ↔ (x ∈ rdyG nd sm out ∧ x ≠ b) ∨ (x ∈ p ∧ decW W p x = 0)
theorem cnt_le {nd : Nm → List Nm} {out : List Nm} {b x : Nm} (hb : b ∉ out) : (nd x).count b ≤ (nd x).countP fun k => decide (k ∉ out) := by
  rw [List.count_eq_countP]
  exact List.countP_mono_left fun k hk he => by
    have : k = b := by simpa using he
    rw [this]; simpa using hb
theorem cnt_sub {out : List Nm} {b : Nm} (hb : b ∉ out) : ∀ (l : List Nm), (l.countP fun k => decide (k ∉ out ++ [b])) = (l.countP fun k => decide (k ∉ out)) - l.count b
  | [] => rfl
  | a :: l => by
    have ih := cnt_sub hb l
    have hle : l.count b ≤ l.countP fun k => decide (k ∉ out) := by
      rw [List.count_eq_countP]
      exact List.countP_mono_left fun k hk he => by
        have : k = b := by simpa using he
        rw [this]; simpa using hb
    rw [List.countP_cons, List.countP_cons, List.count_cons, ih]
    by_cases h1 : a = b
    · subst h1
      simp [hb]
    · by_cases h2 : a ∈ out
      · simp [h1, h2]
      · have e1 : (decide (a ∉ out ++ [b])) = true := by simp [h1, h2]
        have e2 : (decide (a ∉ out)) = true := by simp [h2]
        have e3 : (a == b) = false := by simpa using h1
        rw [e1, e2, e3]
        simp only [if_true, Bool.false_eq_true, if_false]
        omega
theorem cnt_zero {nd : Nm → List Nm} {out : List Nm} {x : Nm} : ((nd x).countP fun k => decide (k ∉ out)) = 0 ↔ ∀ k ∈ nd x, k ∈ out := by
  rw [List.countP_eq_zero]; simp
section
variable {nd : Nm → List Nm} {sm out h us : List Nm} {b : Nm} {W : Nm → Nat}
structure UsI (nd : Nm → List Nm) (sm out us : List Nm) (b : Nm) (W : Nm → Nat) : Prop where
  cnt : ∀ x, us.count x = if x ∈ sm then (nd x).count b else 0
  hW : ∀ x ∈ sm, W x = (nd x).countP fun k => decide (k ∉ out)
  hb : b ∈ rdyG nd sm out
  hc : ∀ a ∈ out, ∀ k ∈ nd a, k ∈ out
theorem UsI.mem (hu : UsI nd sm out us b W) {x : Nm} (hx : x ∈ us) : x ∈ sm ∧ x ∉ rdyG nd sm out ∧ 0 < W x := by
  obtain ⟨b1, b2, b3⟩ := rdy_iff.1 hu.hb
  have h0 := List.count_pos_iff.2 hx
  rw [hu.cnt] at h0
  by_cases hs : x ∈ sm
  · rw [if_pos hs] at h0
    have h1 := cnt_le (nd := nd) (x := x) b2
    rw [← hu.hW x hs] at h1
    refine ⟨hs, fun hr => ?_, by omega⟩
    obtain ⟨r1, r2, r3⟩ := rdy_iff.1 hr
    exact b2 (r3 b (List.count_pos_iff.1 h0))
  · rw [if_neg hs] at h0; omega
theorem UsI.le (hu : UsI nd sm out us b W) (x : Nm) : us.count x ≤ W x := by
  obtain ⟨b1, b2, b3⟩ := rdy_iff.1 hu.hb
  rw [hu.cnt]
  by_cases hs : x ∈ sm
  · rw [if_pos hs, hu.hW x hs]; exact cnt_le b2
  · rw [if_neg hs]; omega
theorem in_begin (hu : UsI nd sm out us b W) {h0 : List Nm} (hN : h.Nodup) (hm : ∀ x, x ∈ h ↔ x ∈ rdyG nd sm out) (hp : (b :: h0).Perm h) : InI nd sm out b W [] h0 := by
  have hN2 := hp.nodup_iff.2 hN
  obtain ⟨n1, n2⟩ := List.nodup_cons.1 hN2
  refine ⟨n2, fun x => ⟨fun hx => .inl ⟨(hm x).1 (hp.mem_iff.1 (List.mem_cons_of_mem _ hx)), fun e => n1 (e ▸ hx)⟩, ?_⟩⟩
  rintro (⟨h1, h2⟩ | ⟨h1, _⟩)
  · rcases List.mem_cons.1 (hp.mem_iff.2 ((hm x).2 h1)) with e | e
    · exact absurd e h2
    · exact e
  · cases h1
theorem decW_snoc (W : Nm → Nat) (p : List Nm) (x y : Nm) : decW W (p ++ [x]) y = if y = x then decW W p x - 1 else decW W p y := by
  unfold decW
  rw [List.count_append]
  by_cases h : y = x
  · subst h; rw [if_pos rfl]; simp; omega
  · rw [if_neg h]
    have : [x].count y = 0 := by rw [List.count_eq_zero]; simpa using h
    rw [this]; rfl
theorem in_pos (hu : UsI nd sm out us b W) {p q : List Nm} {x : Nm} (hpq : p ++ x :: q = us) : 1 ≤ decW W p x := by
  have := hu.le x
  rw [← hpq, List.count_append, List.count_cons_self] at this
  unfold decW; omega
theorem in_push (hu : UsI nd sm out us b W) {p q : List Nm} {x : Nm} (hpq : p ++ x :: q = us) (hi : InI nd sm out b W p h) (h0 : decW W p x - 1 = 0) {h' : List Nm} (hp : h'.Perm (h ++ [x])) : InI nd sm out b W (p ++ [x]) h' := by
  have hpos := in_pos hu hpq
  have hxu : x ∈ us := by rw [← hpq]; simp
  obtain ⟨x1, x2, x3⟩ := hu.mem hxu
  have hx : x ∉ h := fun hx => by
    rcases (hi.hm x).1 hx with ⟨h1, _⟩ | ⟨_, h1⟩
    · exact x2 h1
    · omega
  refine ⟨hp.nodup_iff.2 (List.nodup_append.2 ⟨hi.hN, by simp, fun a ha c hc e => ?_⟩), fun y => ?_⟩
  · rw [List.mem_singleton.1 hc] at e; exact hx (e ▸ ha)
  · rw [hp.mem_iff, List.mem_append, List.mem_singleton, hi.hm, decW_snoc]
    by_cases hy : y = x
    · subst hy
      rw [if_pos rfl]; simp [h0]
    · rw [if_neg hy]; simp [hy]
theorem in_skip (hu : UsI nd sm out us b W) {p q : List Nm} {x : Nm} (hpq : p ++ x :: q = us) (hi : InI nd sm out b W p h) (h0 : decW W p x - 1 ≠ 0) : InI nd sm out b W (p ++ [x]) h := by
  have hpos := in_pos hu hpq
  refine ⟨hi.hN, fun y => ?_⟩
  rw [hi.hm, List.mem_append, List.mem_singleton, decW_snoc]
  by_cases hy : y = x
  · subst hy
    rw [if_pos rfl]
    simp only [or_true, true_and]
    constructor
    · rintro (h | ⟨_, h⟩)
      · exact .inl h
      · omega
    · rintro (h | h)
      · exact .inl h
      · exact absurd h h0
  · rw [if_neg hy]; simp [hy]
theorem in_end (hu : UsI nd sm out us b W) (hi : InI nd sm out b W us h) : OrdI nd sm (out ++ [b]) h (decW W us) := by
  obtain ⟨b1, b2, b3⟩ := rdy_iff.1 hu.hb
  have hW : ∀ x ∈ sm, decW W us x = (nd x).countP fun k => decide (k ∉ out ++ [b]) := fun x hx => by
    rw [cnt_sub b2, ← hu.hW x hx]
    unfold decW
    rw [hu.cnt, if_pos hx]
  refine ⟨hi.hN, fun x => ?_, hW⟩
  rw [hi.hm, rdy_iff, rdy_iff]
  constructor
  · rintro (⟨⟨h1, h2, h3⟩, h4⟩ | ⟨h1, h2⟩)
    · exact ⟨h1, by simp [h2, h4], fun k hk => List.mem_append_left _ (h3 k hk)⟩
    · obtain ⟨x1, x2, x3⟩ := hu.mem h1
      have hz : ∀ k ∈ nd x, k ∈ out ++ [b] := cnt_zero.1 ((hW x x1).symm.trans h2)
      have hcb : b ∈ nd x := by
        have := List.count_pos_iff.2 h1
        rw [hu.cnt, if_pos x1] at this
        exact List.count_pos_iff.1 this
      refine ⟨x1, fun hxo => ?_, hz⟩
      rcases List.mem_append.1 hxo with hxo | hxo
      · exact b2 (hu.hc x hxo b hcb)
      · rw [List.mem_singleton.1 hxo] at x2; exact x2 hu.hb
  · rintro ⟨h1, h2, h3⟩
    have h2a : x ∉ out := fun h => h2 (List.mem_append_left _ h)
    have h2b : x ≠ b := fun h => h2 (List.mem_append_right _ (by simp [h]))
    by_cases hcb : b ∈ nd x
    · right
      refine ⟨List.count_pos_iff.1 (by rw [hu.cnt, if_pos h1]; exact List.count_pos_iff.2 hcb), ?_⟩
      rw [hW x h1]; exact cnt_zero.2 h3
    · left
      refine ⟨⟨h1, h2a, fun k hk => ?_⟩, h2b⟩
      rcases List.mem_append.1 (h3 k hk) with h | h
      · exact h
      · rw [List.mem_singleton.1 h] at hk; exact absurd hk hcb
end
theorem sort_head {h : List Nm} {b : Nm} (hb : b ∈ h) (hl : ∀ x ∈ h, b ≤ x) : (sortT h).head? = some b := by
  have hp := sortT_perm h
  have hw := sortT_pw h
  cases hq : sortT h with
  | nil => rw [hq] at hp; rw [List.nil_perm.1 hp] at hb; cases hb
  | cons a r =>
    rw [hq] at hp hw
    obtain ⟨w1, w2⟩ := List.pairwise_cons.1 hw
    have ha : a ∈ h := hp.mem_iff.1 (List.mem_cons_self ..)
    have hba := hl a ha
    have hab : a ≤ b := by
      rcases List.mem_cons.1 (hp.mem_iff.2 hb) with e | e
      · rw [e]; exact List.le_refl _
      · exact w1 b e
    show some a = some b
    rw [List.le_antisymm hab hba]
theorem next_is {nd : Nm → List Nm} {sm out h : List Nm} {b : Nm} (hs : sm.Nodup) (hN : h.Nodup) (hm : ∀ x, x ∈ h ↔ x ∈ rdyG nd sm out) (hb : b ∈ h) (hl : ∀ x ∈ h, b ≤ x) : nextG nd sm out = some b := by
  unfold nextG
  have hn : (rdyG nd sm out).Nodup := hs.filter _
  rw [← sortT_eq ((List.perm_ext_iff_of_nodup hN hn).2 hm)]
  exact sort_head hb hl
theorem next_no {nd : Nm → List Nm} {sm out : List Nm} (hm : ∀ x, x ∉ rdyG nd sm out) : nextG nd sm out = none := by
  unfold nextG
  rw [List.eq_nil_iff_forall_not_mem.2 hm, List.nil_perm.1 (sortT_perm []).symm]; rfl
theorem ordG_stop {nd : Nm → List Nm} {sm out : List Nm} (h : nextG nd sm out = none) : ∀ f, ordG nd sm f out = out
  | 0 => rfl
  | f + 1 => by rw [ordG, h]
theorem ordG_step {nd : Nm → List Nm} {sm out : List Nm} {b : Nm} (h : nextG nd sm out = some b) (f : Nat) : ordG nd sm (f + 1) out = ordG nd sm f (out ++ [b]) := by rw [ordG, h]
theorem Good.step {nd : Nm → List Nm} {sm out : List Nm} {b : Nm} (h : Good nd out) (hn : nextG nd sm out = some b) : Good nd (out ++ [b]) := by
  obtain ⟨k1, k2, k3⟩ := next_some hn
  exact .snoc h k2 k3
theorem ord_begin {nd : Nm → List Nm} {sm vis h : List Nm} {W : Nm → Nat} (hp : vis.Perm sm) (hs : sm.Nodup) (hh : h.Perm (vis.filter fun n => decide (nd n = []))) (hW : ∀ x ∈ sm, W x = (nd x).length) : OrdI nd sm [] h W := by
  have hv : vis.Nodup := hp.nodup_iff.2 hs
  refine ⟨hh.nodup_iff.2 (hv.filter _), fun x => ?_, fun x hx => ?_⟩
  · rw [hh.mem_iff, List.mem_filter, rdy_iff, hp.mem_iff]
    simp only [decide_eq_true_eq, List.not_mem_nil, not_false_eq_true, true_and]
    constructor
    · rintro ⟨h1, h2⟩
      exact ⟨h1, fun k hk => by rw [h2] at hk; cases hk⟩
    · rintro ⟨h1, h2⟩
      exact ⟨h1, List.eq_nil_iff_forall_not_mem.2 h2⟩
  · rw [hW x hx]
    exact (List.countP_eq_length.2 fun k _ => by simp).symm
theorem usO_len {nd : Nm → List Nm} (h : ∀ n, (nd n).length ≤ 1048576) (k : Nm) : ∀ (vis : List Nm), (usO nd vis k).length ≤ vis.length * 1048576
  | [] => Nat.zero_le _
  | n :: vis => by
    have ih := usO_len h k vis
    have e : usO nd (n :: vis) k = List.replicate ((nd n).count k) n ++ usO nd vis k := by unfold usO; rw [List.flatMap_cons]
    have hc : (nd n).count k ≤ (nd n).length := List.count_le_length
    have := h n
    rw [e, List.length_append, List.length_replicate, List.length_cons, Nat.add_mul]
    omega
end Go.Proofs.YtnfalbdnkgaelaaDoor
end
section
set_option linter.unusedVariables false
set_option linter.unusedSimpArgs false
set_option maxRecDepth 20000
namespace Go.Proofs.YtnfalbdnkgaelaaDoor
open Go Go.Ab
abbrev Tx := List UInt8
def gtx (l : List Tx) (i : Nat) : Tx := l.getD i []
def swpX (l : List Tx) (i j : Nat) : List Tx := (l.set i (gtx l j)).set j (gtx l i)
theorem swpX_len (l : List Tx) (i j : Nat) : (swpX l i j).length = l.length := by unfold swpX; simp
theorem gtx_swp {l : List Tx} {i j : Nat} (hi : i < l.length) (hj : j < l.length) (k : Nat) : gtx (swpX l i j) k = if k = j then gtx l i else if k = i then gtx l j else gtx l k := by
  unfold swpX gtx
  simp only [List.getD, List.getElem?_set, List.length_set]
  by_cases h1 : j = k
  · subst h1; simp [hj]
  · rw [if_neg h1, if_neg (Ne.symm h1)]
    by_cases h2 : i = k
    · subst h2; simp [hi]
    · rw [if_neg h2, if_neg (Ne.symm h2)]
theorem swpX_perm {l : List Tx} {i j : Nat} (hi : i < l.length) (hj : j < l.length) : (swpX l i j).Perm l := by
  have := List.set_set_perm hj hi
  unfold swpX gtx
  rw [show l.getD i [] = l[i] by simp [List.getD, hi], show l.getD j [] = l[j] by simp [List.getD, hj]]
  by_cases h : i = j
  · subst h; simp
  · rw [List.set_comm _ _ h]
    exact this
def upX : Nat → Nat → List Tx → List Tx
  | 0, _, l => l
  | f + 1, j, l => if j = 0 then l else if Op.bytesLess (gtx l j) (gtx l ((j - 1) / 2)) = true then upX f ((j - 1) / 2) (swpX l ((j - 1) / 2) j) else l
def kidX (l : List Tx) (n i : Nat) : Nat := if 2 * i + 2 < n ∧ Op.bytesLess (gtx l (2 * i + 2)) (gtx l (2 * i + 1)) = true then 2 * i + 2 else 2 * i + 1
def downX : Nat → Nat → Nat → List Tx → List Tx
  | 0, _, _, l => l
  | f + 1, i, n, l => if n ≤ 2 * i + 1 then l else if Op.bytesLess (gtx l (kidX l n i)) (gtx l i) = true then downX f (kidX l n i) n (swpX l i (kidX l n i)) else l
def HpX (n : Nat) (l : List Tx) : Prop := ∀ i, 0 < i → i < n → gtx l ((i - 1) / 2) ≤ gtx l i
theorem bl_lt (a b : Tx) : Op.bytesLess a b = true ↔ a < b := by
  rw [Go.Proofs.bytesLess_eq]; exact decide_eq_true_iff
theorem bl_le {a b : Tx} (h : ¬ Op.bytesLess a b = true) : b ≤ a := by
  rw [bl_lt] at h; exact List.not_lt.1 h
theorem tx_trans {a b c : Tx} (h : a ≤ b) (h2 : b ≤ c) : a ≤ c := List.le_trans h h2
theorem lt_le {a b : Tx} (h : a < b) : a ≤ b := List.le_of_lt h
theorem upX_len : ∀ (f j : Nat) (l : List Tx), (upX f j l).length = l.length
  | 0, _, l => rfl
  | f + 1, j, l => by
    unfold upX
    split
    · rfl
    · split
      · rw [upX_len f, swpX_len]
      · rfl
theorem upX_perm : ∀ (f j : Nat) (l : List Tx), j < l.length → (upX f j l).Perm l
  | 0, _, l, _ => .refl _
  | f + 1, j, l, h => by
    unfold upX
    split
    · exact .refl _
    · split
      · exact (upX_perm f _ _ (by rw [swpX_len]; omega)).trans (swpX_perm (by omega) h)
      · exact .refl _
theorem upX_heap : ∀ (f j : Nat) (l : List Tx), j ≤ f → j < l.length → (∀ i, 0 < i → i < l.length → i ≠ j → gtx l ((i - 1) / 2) ≤ gtx l i) → (0 < j → ∀ c, 0 < c → c < l.length → (c - 1) / 2 = j → gtx l ((j - 1) / 2) ≤ gtx l c) → HpX l.length (upX f j l)
  | 0, j, l, hf, hj, h1, h2 => by
    intro i hi hn
    exact h1 i hi hn (by omega)
  | f + 1, j, l, hf, hj, h1, h2 => by
    unfold upX
    by_cases h0 : j = 0
    · rw [if_pos h0]
      intro i hi hn
      exact h1 i hi hn (by omega)
    · rw [if_neg h0]
      by_cases hb : Op.bytesLess (gtx l j) (gtx l ((j - 1) / 2)) = true
      · rw [if_pos hb]
        have hp : (j - 1) / 2 < l.length := by omega
        have hle : gtx l j ≤ gtx l ((j - 1) / 2) := lt_le ((bl_lt _ _).1 hb)
        have hg := gtx_swp (l := l) hp hj
        have := upX_heap f ((j - 1) / 2) (swpX l ((j - 1) / 2) j) (by omega) (by rw [swpX_len]; exact hp) ?_ ?_
        · rw [swpX_len] at this; exact this
        · rw [swpX_len]
          intro i hi hn hne
          rw [hg, hg]
          by_cases hij : i = j
          · subst hij
            rw [if_pos rfl, if_neg (show (i - 1) / 2 ≠ i by omega), if_pos rfl]
            exact hle
          · rw [if_neg hij, if_neg hne]
            by_cases hp2 : (i - 1) / 2 = j
            · rw [if_pos hp2]
              exact h2 (by omega) i hi hn hp2
            · rw [if_neg hp2]
              by_cases hp3 : (i - 1) / 2 = (j - 1) / 2
              · rw [if_pos hp3]
                have := h1 i hi hn hij
                rw [hp3] at this
                exact tx_trans hle this
              · rw [if_neg hp3]
                exact h1 i hi hn hij
        · rw [swpX_len]
          intro hpos c hc hcn hcp
          rw [hg, hg, if_neg (show ((j - 1) / 2 - 1) / 2 ≠ j by omega), if_neg (show ((j - 1) / 2 - 1) / 2 ≠ (j - 1) / 2 by omega)]
          have hup := h1 ((j - 1) / 2) hpos hp (by omega)
          by_cases hcj : c = j
          · rw [if_pos hcj]; exact hup
          · rw [if_neg hcj, if_neg (show c ≠ (j - 1) / 2 by omega)]
            have := h1 c hc hcn hcj
            rw [hcp] at this
            exact tx_trans hup this
      · rw [if_neg hb]
        intro i hi hn
        by_cases hij : i = j
        · subst hij; exact bl_le hb
        · exact h1 i hi hn hij
theorem kidX_lt {l : List Tx} {n i : Nat} (h : 2 * i + 1 < n) : kidX l n i < n ∧ i < kidX l n i ∧ (kidX l n i - 1) / 2 = i ∧ 0 < kidX l n i := by
  unfold kidX; split <;> omega
theorem kidX_le {l : List Tx} {n i : Nat} (c : Nat) (hc : 0 < c) (hn : c < n) (hp : (c - 1) / 2 = i) : gtx l (kidX l n i) ≤ gtx l c := by
  unfold kidX
  have : c = 2 * i + 1 ∨ c = 2 * i + 2 := by omega
  by_cases h : 2 * i + 2 < n ∧ Op.bytesLess (gtx l (2 * i + 2)) (gtx l (2 * i + 1)) = true
  · rw [if_pos h]
    rcases this with rfl | rfl
    · exact lt_le ((bl_lt _ _).1 h.2)
    · exact List.le_refl _
  · rw [if_neg h]
    rcases this with rfl | rfl
    · exact List.le_refl _
    · exact bl_le fun hh => h ⟨hn, hh⟩
theorem downX_len : ∀ (f i n : Nat) (l : List Tx), (downX f i n l).length = l.length
  | 0, _, _, l => rfl
  | f + 1, i, n, l => by
    unfold downX
    split
    · rfl
    · split
      · rw [downX_len f, swpX_len]
      · rfl
theorem downX_perm : ∀ (f i n : Nat) (l : List Tx), n ≤ l.length → (downX f i n l).Perm l
  | 0, _, _, l, _ => .refl _
  | f + 1, i, n, l, h => by
    unfold downX
    split
    · exact .refl _
    · split
      · have hk := kidX_lt (l := l) (n := n) (i := i) (by omega)
        exact (downX_perm f _ n _ (by rw [swpX_len]; exact h)).trans (swpX_perm (by omega) (by omega))
      · exact .refl _
theorem downX_out : ∀ (f i n : Nat) (l : List Tx), n ≤ l.length → ∀ k, n ≤ k → gtx (downX f i n l) k = gtx l k
  | 0, _, _, l, _, _, _ => rfl
  | f + 1, i, n, l, h, k, hk => by
    unfold downX
    split
    · rfl
    · split
      · have hkd := kidX_lt (l := l) (n := n) (i := i) (by omega)
        rw [downX_out f _ n _ (by rw [swpX_len]; exact h) k hk, gtx_swp (by omega) (by omega), if_neg (by omega), if_neg (by omega)]
      · rfl
theorem downX_heap : ∀ (f i n : Nat) (l : List Tx), n ≤ i + f → n ≤ l.length → (∀ c, 0 < c → c < n → (c - 1) / 2 ≠ i → gtx l ((c - 1) / 2) ≤ gtx l c) → (0 < i → ∀ c, 0 < c → c < n → (c - 1) / 2 = i → gtx l ((i - 1) / 2) ≤ gtx l c) → HpX n (downX f i n l)
  | 0, i, n, l, hf, hl, h1, h2 => by
    intro c hc hn
    exact h1 c hc hn (by omega)
  | f + 1, i, n, l, hf, hl, h1, h2 => by
    unfold downX
    by_cases h0 : n ≤ 2 * i + 1
    · rw [if_pos h0]
      intro c hc hn
      exact h1 c hc hn (by omega)
    · rw [if_neg h0]
      have hk := kidX_lt (l := l) (n := n) (i := i) (by omega)
      have hkl := kidX_le (l := l) (n := n) (i := i)
      generalize kidX l n i = j at *
      obtain ⟨k1, k2, k3, k4⟩ := hk
      by_cases hb : Op.bytesLess (gtx l j) (gtx l i) = true
      · rw [if_pos hb]
        have hle : gtx l j ≤ gtx l i := lt_le ((bl_lt _ _).1 hb)
        have hg := gtx_swp (l := l) (show i < l.length by omega) (show j < l.length by omega)
        refine downX_heap f j n _ (by omega) (by rw [swpX_len]; exact hl) ?_ ?_
        · intro c hc hn hne
          rw [hg, hg, if_neg hne]
          by_cases hcj : c = j
          · subst hcj
            rw [if_pos rfl, if_pos k3]; exact hle
          · rw [if_neg hcj]
            by_cases hp : (c - 1) / 2 = i
            · rw [if_pos hp, if_neg (show c ≠ i by omega)]
              exact hkl c hc hn hp
            · rw [if_neg hp]
              by_cases hci : c = i
              · subst hci
                rw [if_pos rfl]
                exact h2 hc j k4 k1 k3
              · rw [if_neg hci]
                exact h1 c hc hn hp
        · intro hpos c hc hn hp
          rw [hg, hg, if_neg (show (j - 1) / 2 ≠ j by omega), if_pos k3, if_neg (show c ≠ j by omega), if_neg (show c ≠ i by omega)]
          have := h1 c hc hn (by omega)
          rw [hp] at this
          exact this
      · rw [if_neg hb]
        intro c hc hn
        by_cases hp : (c - 1) / 2 = i
        · rw [hp]; exact tx_trans (bl_le hb) (hkl c hc hn hp)
        · exact h1 c hc hn hp
theorem HpX.least {l : List Tx} {n : Nat} (h : HpX n l) : ∀ (k : Nat), k < n → gtx l 0 ≤ gtx l k := by
  intro k
  induction k using Nat.strongRecOn with
  | ind k ih =>
    intro hk
    rcases Nat.eq_zero_or_pos k with rfl | hp
    · exact List.le_refl _
    · exact tx_trans (ih ((k - 1) / 2) (by omega) (by omega)) (h k hp hk)
def pushX (l : List Tx) (x : Tx) : List Tx := upX (l.length + 1) l.length (l ++ [x])
def popX (l : List Tx) : List Tx := (downX l.length 0 (l.length - 1) (swpX l 0 (l.length - 1))).take (l.length - 1)
theorem gtx_app {l : List Tx} {x : Tx} {i : Nat} (h : i < l.length) : gtx (l ++ [x]) i = gtx l i := by
  unfold gtx; simp [List.getD, List.getElem?_append_left h]
theorem pushX_perm (l : List Tx) (x : Tx) : (pushX l x).Perm (l ++ [x]) := upX_perm _ _ _ (by simp)
theorem pushX_len (l : List Tx) (x : Tx) : (pushX l x).length = l.length + 1 := by rw [pushX, upX_len]; simp
theorem pushX_heap {l : List Tx} {x : Tx} (h : HpX l.length l) : HpX (l.length + 1) (pushX l x) := by
  have := upX_heap (l.length + 1) l.length (l ++ [x]) (by omega) (by simp) (fun i h1 h2 h3 => by
    have h2 : i < l.length + 1 := by simpa using h2
    rw [gtx_app (by omega), gtx_app (by omega)]
    exact h i h1 (by omega)) (fun h0 c h1 h2 h3 => by
    have h2 : c < l.length + 1 := by simpa using h2
    omega)
  rw [List.length_append] at this
  exact this
theorem gtx_take {l : List Tx} {n i : Nat} (h : i < n) : gtx (l.take n) i = gtx l i := by
  unfold gtx; simp [List.getD, List.getElem?_take_of_lt h]
theorem popX_len (l : List Tx) : (popX l).length = l.length - 1 := by
  unfold popX; rw [List.length_take, downX_len, swpX_len]; omega
theorem popX_heap {l : List Tx} (h : HpX l.length l) : HpX (l.length - 1) (popX l) := by
  rcases Nat.eq_zero_or_pos l.length with h0 | h0
  · intro i h1 h2; omega
  have hg := gtx_swp (l := l) (i := 0) (j := l.length - 1) h0 (by omega)
  have := downX_heap l.length 0 (l.length - 1) (swpX l 0 (l.length - 1)) (by omega) (by rw [swpX_len]; omega) (fun c h1 h2 h3 => by
    rw [hg, hg, if_neg (by omega), if_neg (by omega), if_neg (by omega), if_neg (by omega)]
    exact h c h1 (by omega)) (fun h0 => by omega)
  intro i h1 h2
  unfold popX
  rw [gtx_take (by omega), gtx_take (by omega)]
  exact this i h1 h2
theorem popX_perm {l : List Tx} (h : l ≠ []) : (gtx l 0 :: popX l).Perm l ∧ gtx (downX l.length 0 (l.length - 1) (swpX l 0 (l.length - 1))) (l.length - 1) = gtx l 0 := by
  have hp : 0 < l.length := List.length_pos_iff.2 h
  have hl : (downX l.length 0 (l.length - 1) (swpX l 0 (l.length - 1))).length = l.length := by rw [downX_len, swpX_len]
  have h1 : gtx (downX l.length 0 (l.length - 1) (swpX l 0 (l.length - 1))) (l.length - 1) = gtx l 0 := by
    rw [downX_out _ _ _ _ (by rw [swpX_len]; omega) _ (Nat.le_refl _), gtx_swp hp (by omega), if_pos rfl]
  refine ⟨?_, h1⟩
  have h2 : (downX l.length 0 (l.length - 1) (swpX l 0 (l.length - 1))).Perm l := (downX_perm _ _ _ _ (by rw [swpX_len]; omega)).trans (swpX_perm hp (by omega))
  have h3 : downX l.length 0 (l.length - 1) (swpX l 0 (l.length - 1)) = popX l ++ [gtx l 0] := by
    rw [← h1]
    unfold popX gtx
    generalize downX l.length 0 (l.length - 1) (swpX l 0 (l.length - 1)) = d at hl
    apply List.ext_getElem?
    intro i
    by_cases hi : i < l.length - 1
    · rw [List.getElem?_append_left (by simp; omega), List.getElem?_take_of_lt hi]
    · rw [List.getElem?_append_right (by simp; omega)]
      by_cases hi2 : i = l.length - 1
      · subst hi2
        rw [List.length_take, show l.length - 1 - min (l.length - 1) d.length = 0 by omega]
        simp [List.getD, List.getElem?_eq_getElem (show l.length - 1 < d.length by omega)]
      · rw [List.getElem?_eq_none (by omega), List.getElem?_eq_none (by simp; omega)]
  rw [h3] at h2
  exact (List.perm_append_comm (l₁ := [gtx l 0]) (l₂ := popX l)).trans h2
end Go.Proofs.YtnfalbdnkgaelaaDoor
end
section
set_option linter.unusedVariables false
set_option linter.unusedSimpArgs false
namespace Go.Ab
open Go
def Rl.fix (r : Rl) (b : Nat) : Rl := { r with I := fun k => r.I k ∨ k = b }
theorem Inv.fix {cx : Cx} {r : Rl} {σ : Heap} {w : World} {b : Nat} (hi : Inv cx r σ w) (hl : ¬ Live r σ b) (hb : b < w.heap.size) : Inv cx (r.fix b) σ w := by
  have g : Grow r w (r.fix b) w := ⟨fun _ h => h, fun _ h => .inl h, fun _ _ _ h => h, fun _ _ => rfl, fun _ c _ f h => ⟨c, f, h, rfl⟩⟩
  refine ⟨fun id ver x h => ?_, hi.lt, hi.inj, fun k hk hI => ?_, fun k hI => ?_, fun k h => .inl (hi.SI k h), hi.glob.mono g hi.SI⟩
  · rcases hi.box id ver x h with ⟨k, o, h1, h2⟩ | h1
    · exact .inl ⟨k, o, h1, h2.mono g rfl⟩
    · exact .inr h1
  · rcases hI with h | rfl
    · exact hi.imm k hk h
    · exact hl hk
  · rcases hI with h | rfl
    · exact hi.Ilt k h
    · exact hb
theorem Inv.freeze {cx : Cx} {r : Rl} {σ : Heap} {w : World} {id cur b o : Nat} {x : Box} (hi : Inv cx r σ w) (hσ : σ[id]? = some (cur, some x)) (hρ : r.ρ id cur = some (b, o)) :
    Inv cx (r.fix b) (σ.set id (cur, none)) w ∧ Ext r σ w (r.fix b) (σ.set id (cur, none)) w := by
  obtain ⟨q1, q2⟩ := hi.kill (w' := w) hσ (fun _ _ => rfl) rfl (fun b c t f h => ⟨c, f, h, rfl⟩) rfl rfl rfl
  have hlive : Live r σ b := ⟨id, cur, x, o, hσ, hρ⟩
  have hid : id < σ.length := by
    rcases Nat.lt_or_ge id σ.length with h | h
    · exact h
    · rw [List.getElem?_eq_none h] at hσ; cases hσ
  have hnl : ¬ Live r (σ.set id (cur, none)) b := by
    rintro ⟨j, v, y, o', h1, h2⟩
    rw [List.getElem?_set] at h1
    by_cases hj : id = j
    · subst hj; rw [if_pos rfl] at h1; simp [hid] at h1
    · rw [if_neg hj] at h1
      exact hj (hi.inj _ _ _ _ _ _ _ _ _ hσ h1 hρ h2)
  refine ⟨q1.fix hnl (hi.lt _ _ _ _ hρ).2, ⟨q2.S, fun k h => .inl h, q2.Sf, fun k h => ?_, q2.ρ, q2.hs, q2.σl, q2.same, fun k h => ?_, q2.size, q2.os, q2.output, q2.tape, q2.blk⟩⟩
  · rcases h with h | rfl
    · exact .inl h
    · exact .inr (.inl hlive)
  · exact q2.liv k h
section
variable {cx : Cx} {n : Nat} {B : Bs} {k : List AI} {Q : Post} {fr : Fr} {σ : Heap}
end
end Go.Ab
end
section
set_option linter.unusedVariables false
set_option linter.unusedSimpArgs false
namespace Go.Ab
open Go
inductive Low (k : Nat) : AV → Prop
  | top : Low k .top
  | bool {b} : Low k (.bool b)
  | int {t n} : Low k (.int t n)
  | str {s} : Low k (.str s)
  | nilp : Low k .nilp
  | nils : Low k .nils
  | nilm : Low k .nilm
  | nilf : Low k .nilf
  | nili : Low k .nili
  | mark {vs} : Low k (.mark vs)
  | ptr {id ver off} (h : id < k) : Low k (.ptr id ver off)
  | eptr {id ver off} (h : id < k) : Low k (.eptr id ver off)
  | ms {id ver off len sz full} (h : id < k) : Low k (.ms id ver off len sz full)
  | map {id ver} (h : id < k) : Low k (.map id ver)
  | rp {b cs} (hx : ∀ x ∈ cs, Low k x) : Low k (.rp b cs)
  | sl {b fl sz xs} (hx : ∀ x ∈ xs, Low k x) : Low k (.sl b fl sz xs)
  | iface {t v} (h : Low k v) : Low k (.iface t v)
  | agg {cs} (h : ∀ x ∈ cs, Low k x) : Low k (.agg cs)
  | tup {cs} (h : ∀ x ∈ cs, Low k x) : Low k (.tup cs)
  | func {fn a b} (h : ∀ x ∈ a, Low k x) (h' : ∀ x ∈ b, Low k x) : Low k (.func fn a b)
theorem Low.free {k : Nat} {st : Bool} {a : AV} (h : Free st a) : Low k a := by
  induction h with
  | top => exact .top
  | bool => exact .bool
  | int => exact .int
  | str => exact .str
  | nilp => exact .nilp
  | nils => exact .nils
  | nilm => exact .nilm
  | nilf => exact .nilf
  | nili => exact .nili
  | rp _ _ ih => exact .rp ih
  | sl _ _ ih => exact .sl ih
  | iface _ ih => exact .iface ih
  | agg _ ih => exact .agg ih
  | tup _ ih => exact .tup ih
  | func _ _ ih1 ih2 => exact .func ih1 ih2
theorem Low.cells {k : Nat} {a : AV} (h : Low k a) : ∀ x ∈ a.cells, Low k x := by
  cases a with
  | agg cs => cases h; assumption
  | _ => intro x hx; simp only [AV.cells, List.mem_singleton] at hx; subst hx; exact h
theorem VRel.low {k : Nat} {r r' : Rl} {w : World} {v : Value} {a : AV} (h : VRel r w v a) (hl : Low k a) (hS : ∀ b, r.S b → r'.S b) (hI : ∀ b, r.I b → r'.I b) (hρ : ∀ id ver p, id < k → r.ρ id ver = some p → r'.ρ id ver = some p) : VRel r' w v a := by
  induction h with
  | top => exact .top
  | mark => exact .mark
  | bool => exact .bool
  | int => exact .int
  | str h => exact .str h
  | nilp => exact .nilp
  | ptr h => cases hl with | ptr hk => exact .ptr (hρ _ _ _ hk h)
  | eptr h => cases hl with | eptr hk => exact .eptr (hρ _ _ _ hk h)
  | rp hI' hS' f hc _ ih => cases hl with | rp hx => exact .rp (hI _ hI') (fun h => hS _ (hS' h)) f hc (fun i hi => ih i hi (hx _ (List.getElem_mem hi)))
  | nils => exact .nils
  | sl0 h => exact .sl0 h
  | sl hn hc0 hf' hI' hS' hsz f hc _ ih =>
    cases hl with
    | sl hx => exact .sl hn hc0 hf' (hI _ hI') (fun h => hS _ (hS' h)) hsz f hc (fun e he j hj => ih e he j hj ((hx _ (List.getElem_mem he)).cells _ (List.getElem_mem hj)))
  | ms0 => exact .ms0
  | ms h hcap hn hf' => cases hl with | ms hk => exact .ms (hρ _ _ _ hk h) hcap hn hf'
  | nilm => exact .nilm
  | map h => cases hl with | map hk => exact .map (hρ _ _ _ hk h)
  | func h1 _ h2 _ ih1 ih2 =>
    cases hl with
    | func ha hb => exact .func h1 (fun i hi => ih1 i hi (ha _ (List.getElem_mem hi))) h2 (fun i hi => ih2 i hi (hb _ (List.getElem_mem hi)))
  | nilf => exact .nilf
  | iface _ ih => cases hl with | iface h => exact .iface (ih h)
  | nili => exact .nili
  | agg hn _ ih => cases hl with | agg h => exact .agg hn (fun i hi => ih i hi (h _ (List.getElem_mem hi)))
  | tup hn _ ih => cases hl with | tup h => exact .tup hn (fun i hi => ih i hi (h _ (List.getElem_mem hi)))
inductive LowBox (k : Nat) : Box → Prop
  | cells {cs g} (h : ∀ x ∈ cs, Low k x) : LowBox k (.cells cs g)
  | map {kvs st} (h : ∀ p ∈ kvs, Low k p.1 ∧ Low k p.2) : LowBox k (.map kvs st)
  | miter {id ver since seen last} (h : id < k) : LowBox k (.miter id ver since seen last)
  | siter {s pos} : LowBox k (.siter s pos)
theorem BoxRel.low {k : Nat} {r r' : Rl} {w : World} {b o : Nat} {x : Box} (h : BoxRel r w b o x) (hl : LowBox k x) (hS : ∀ b, r.S b → r'.S b) (hI : ∀ b, r.I b → r'.I b) (hρ : ∀ id ver p, id < k → r.ρ id ver = some p → r'.ρ id ver = some p) : BoxRel r' w b o x := by
  cases hl with
  | cells hx =>
    obtain ⟨c, t, lo, hi, h1, h2, h3⟩ := h
    refine ⟨c, t, lo, hi, h1, fun i hi => ?_, h3⟩
    obtain ⟨v, hv, hr⟩ := h2 i hi
    exact ⟨v, hv, hr.low (hx _ (List.getElem_mem hi)) hS hI hρ⟩
  | map hx =>
    obtain ⟨h0, es, clock, h1, h2, h3, h4⟩ := h
    refine ⟨h0, es, clock, h1, h2, fun i hi => ?_, h4⟩
    obtain ⟨e, he, hk, hv⟩ := h3 i hi
    have := hx _ (List.getElem_mem hi)
    exact ⟨e, he, hk.low this.1 hS hI hρ, hv.low this.2 hS hI hρ⟩
  | siter => exact h
  | miter hk =>
    obtain ⟨h0, mb, h1, h2⟩ := h
    exact ⟨h0, mb, hρ _ _ _ hk h1, h2⟩
inductive FzT (k : Nat) (σ : Heap) : AV → AV → Prop
  | low {a} (h : Low k a) : FzT k σ a a
  | nils {b fl sz} : FzT k σ .nils (.sl b fl sz [])
  | ms {id ver off len sz full cs g xs ys} (hk : k ≤ id) (hb : boxAt σ id = some (ver, cs, g)) (hle : off + len * sz ≤ cs.length) (hx : (cs.drop off).take (len * sz) = ys) (hsz : ∀ x ∈ xs, x.cells.length = sz) (hl : xs.length = len)
      (hxy : ys.length = (xs.flatMap AV.cells).length) (hf : ∀ i (h : i < ys.length) (h' : i < (xs.flatMap AV.cells).length), FzT k σ ys[i] (xs.flatMap AV.cells)[i]) : FzT k σ (.ms id ver off len sz full) (.sl true false sz xs)
  | agg {az bs} (hl : az.length = bs.length) (h : ∀ i (h : i < az.length) (h' : i < bs.length), FzT k σ az[i] bs[i]) : FzT k σ (.agg az) (.agg bs)
  | tup {az bs} (hl : az.length = bs.length) (h : ∀ i (h : i < az.length) (h' : i < bs.length), FzT k σ az[i] bs[i]) : FzT k σ (.tup az) (.tup bs)
theorem FzT.ms1 {k : Nat} {σ : Heap} {id ver len : Nat} {full : Bool} {xs : List AV} {g : Tag} (hk : k ≤ id) (hb : boxAt σ id = some (ver, xs, g)) (ho : ∀ x ∈ xs, x.one = true) (hl : xs.length = len) (hf : ∀ x ∈ xs, Low k x) :
    FzT k σ (.ms id ver 0 len 1 full) (.sl true false 1 xs) := by
  have e := ones_flat ho
  refine .ms (ys := xs) hk hb (by omega) (by rw [List.drop_zero, List.take_of_length_le (by omega)]) (fun x hx => by rw [one_cells (ho x hx)]; rfl) hl (by rw [e]) (fun i h h' => ?_)
  have : (xs.flatMap AV.cells)[i] = xs[i] := by simp only [e]
  rw [this]
  exact .low (hf _ (List.getElem_mem h))
theorem FzT.rel {k : Nat} {cx : Cx} {r r' : Rl} {σ : Heap} {w : World} (hi : Inv cx r σ w) (hS : ∀ b, r.S b → r'.S b) (hI : ∀ b, r.I b → r'.I b) (hρ : ∀ id ver p, id < k → r.ρ id ver = some p → r'.ρ id ver = some p)
    (hL : ∀ (id ver : Nat) x b o, k ≤ id → σ[id]? = some (ver, some x) → r.ρ id ver = some (b, o) → r'.I b ∧ r'.S b) {a a' : AV} (hz : FzT k σ a a') : ∀ {v : Value}, VRel r w v a → VRel r' w v a' := by
  induction hz with
  | low h => intro v hv; exact hv.low h hS hI hρ
  | nils => intro v hv; cases hv; exact .sl0 (fun _ => rfl)
  | ms hk hb hle hx hsz hl hxy hf ih =>
    intro v hv
    cases hv with
    | ms0 =>
      obtain rfl := List.eq_nil_of_length_eq_zero hl
      exact .sl0 (fun h => by cases h)
    | ms hρ' hcap hn hff =>
      have hbr := hi.cells hb rfl hρ'
      obtain ⟨k1, k2⟩ := hL _ _ _ _ _ hk (boxAt_some hb) hρ'
      rename_i off0 len0 sz0 _ cs0 _ xs0 ys0 b0 o1 cap0
      have hc := (hbr.cells'.drop off0).take (len0 * sz0)
      rw [hx] at hc
      refine Cells.sl hl.symm hn (fun h => by cases h) k1 (fun _ => k2) hsz (fun i hi' => ?_)
      obtain ⟨u, q1, q2⟩ := hc i (by omega)
      exact ⟨u, q1, ih i (by omega) hi' q2⟩
  | agg hl h ih =>
    intro v hv
    cases hv with
    | agg hn h2 => exact .agg (by omega) (fun i hi => ih i (by omega) hi (h2 i (by omega)))
  | tup hl h ih =>
    intro v hv
    cases hv with
    | tup hn h2 => exact .tup (by omega) (fun i hi => ih i (by omega) hi (h2 i (by omega)))
def LowH (k : Nat) (σ : Heap) : Prop := ∀ (id ver : Nat) x, id < k → σ[id]? = some (ver, some x) → LowBox k x
theorem LowH.of {k : Nat} {σ : Heap} (h : ∀ e ∈ σ.take k, ∀ x, e.2 = some x → LowBox k x) : LowH k σ := fun id ver x hk hid =>
  h (ver, some x) (by
    rw [List.mem_iff_getElem?]
    exact ⟨id, by rw [List.getElem?_take, if_pos hk]; exact hid⟩) x rfl
def TR (k0 : Nat) (R : Out → Heap → Prop) (o : Out) (σ : Heap) : Prop :=
  ∃ k, k0 ≤ k ∧ LowH k σ ∧ match o with
    | .ret v => ∃ res, FzT k σ v res ∧ R (.ret res) (σ.take k)
    | .panic v => Low k v ∧ R (.panic v) (σ.take k)
theorem trunc {cx : Cx} {r r' : Rl} {σ σ' : Heap} {w w' : World} {k : Nat} (hi : Inv cx r σ w) (hi' : Inv cx r' σ' w') (hx : Ext r σ w r' σ' w') (hk : σ.length ≤ k) (hl : LowH k σ') :
    ∃ r'', Inv cx r'' (σ'.take k) w' ∧ Ext r σ w r'' (σ'.take k) w' ∧ (∀ v a, Low k a → VRel r' w' v a → VRel r'' w' v a) ∧ ∀ v a a', FzT k σ' a a' → VRel r' w' v a → VRel r'' w' v a' := by
  let F : Nat → Prop := fun b => ∃ (id ver : Nat) (x : Box) (o : Nat), k ≤ id ∧ σ'[id]? = some (ver, some x) ∧ r'.ρ id ver = some (b, o)
  let r2 : Rl := { S := fun b => r'.S b ∨ F b, I := fun b => r'.I b ∨ F b, ρ := fun id ver => if id < k then r'.ρ id ver else none }
  have hS : ∀ b, r'.S b → r2.S b := fun b h => Or.inl h
  have hI : ∀ b, r'.I b → r2.I b := fun b h => Or.inl h
  have hρ : ∀ id ver p, id < k → r'.ρ id ver = some p → r2.ρ id ver = some p := fun id ver p h1 h2 => by simp only [r2, if_pos h1]; exact h2
  have hρ2 : ∀ {id ver p}, r2.ρ id ver = some p → id < k ∧ r'.ρ id ver = some p := by
    intro id ver p h
    simp only [r2] at h
    split at h
    · exact ⟨by assumption, h⟩
    · cases h
  have hget : ∀ {id : Nat} {e : Nat × Option Box}, (σ'.take k)[id]? = some e → id < k ∧ σ'[id]? = some e := by
    intro id e h
    rw [List.getElem?_take] at h
    split at h
    · exact ⟨by assumption, h⟩
    · cases h
  have hnew : ∀ b, F b → w.heap.size ≤ b := by
    rintro b ⟨id, ver, x, o, h1, h2, h3⟩
    rcases hx.blk id ver b o h3 with ⟨v1, o1, h4⟩ | h4
    · obtain ⟨⟨cur, y, h5, _⟩, _⟩ := hi.lt _ _ _ _ h4
      rw [List.getElem?_eq_none (by omega)] at h5; cases h5
    · exact h4
  have hF : ∀ b, F b → b < w'.heap.size := by
    rintro b ⟨id, ver, x, o, h1, h2, h3⟩
    exact (hi'.lt _ _ _ _ h3).2
  have hlive : ∀ b, Live r2 (σ'.take k) b → Live r' σ' b ∧ ¬ F b := by
    rintro b ⟨id, ver, x, o, h1, h2⟩
    obtain ⟨h3, h4⟩ := hget h1
    obtain ⟨_, h5⟩ := hρ2 h2
    refine ⟨⟨id, ver, x, o, h4, h5⟩, ?_⟩
    rintro ⟨id', ver', x', o', q1, q2, q3⟩
    have := hi'.inj _ _ _ _ _ _ _ _ _ h4 q2 h5 q3
    omega
  refine ⟨r2, ⟨fun id ver x h => ?_, fun id ver b o h => ?_, fun id id' ver ver' x x' b o o' h1 h2 h3 h4 => hi'.inj id id' ver ver' x x' b o o' (hget h1).2 (hget h2).2 (hρ2 h3).2 (hρ2 h4).2, fun b h hb => ?_, fun b hb => ?_, fun b hb => ?_, ?_⟩,
    ⟨fun b h => .inl (hx.S b h), fun b h => .inl (hx.I b h), fun b hb => ?_, fun b hb => ?_, fun id ver p h => ?_, hx.hs, ?_, hx.same, fun b h => hx.liv b (hlive b h).1, hx.size, hx.os, hx.output, hx.tape, fun id ver b o h => hx.blk id ver b o (hρ2 h).2⟩, fun v a h hv => hv.low h hS hI hρ, fun v a a' h hv => ?_⟩
  · obtain ⟨h1, h2⟩ := hget h
    rcases hi'.box id ver x h2 with ⟨b, o, h3, h4⟩ | ⟨h3, h4⟩
    · exact .inl ⟨b, o, hρ _ _ _ h1 h3, h4.low (hl id ver x h1 h2) hS hI hρ⟩
    · exact .inr ⟨by simp only [r2, if_pos h1]; exact h3, h4⟩
  · obtain ⟨h1, h2⟩ := hρ2 h
    obtain ⟨⟨cur, x, h3, h4⟩, h5⟩ := hi'.lt id ver b o h2
    exact ⟨⟨cur, x, by rw [List.getElem?_take, if_pos h1]; exact h3, h4⟩, h5⟩
  · obtain ⟨h1, h2⟩ := hlive b h
    rcases hb with hb | hb
    · exact hi'.imm b h1 hb
    · exact h2 hb
  · rcases hb with hb | hb
    · exact hi'.Ilt b hb
    · exact hF b hb
  · rcases hb with hb | hb
    · exact .inl (hi'.SI b hb)
    · exact .inr hb
  · exact hi'.glob.free (r' := r2) hS (fun b hb => hb.elim (fun h => .inl (hi'.SI b h)) .inr)
  · rcases hb with hb | hb
    · exact hx.Sf b hb
    · exact .inr (hnew b hb)
  · rcases hb with hb | hb
    · exact hx.If b hb
    · exact .inr (.inr (hnew b hb))
  · obtain ⟨⟨cur, x, h1, _⟩, _⟩ := hi.lt id ver p.1 p.2 h
    refine hρ _ _ _ ?_ (hx.ρ _ _ _ h)
    rcases Nat.lt_or_ge id σ.length with h' | h'
    · omega
    · rw [List.getElem?_eq_none h'] at h1; cases h1
  · have := hx.σl
    rw [List.length_take]; omega
  · exact h.rel hi' hS hI hρ (fun id ver x b o h1 h2 h3 => ⟨.inr ⟨id, ver, x, o, h1, h2, h3⟩, .inr ⟨id, ver, x, o, h1, h2, h3⟩⟩) hv
theorem callOk_trunc {cx : Cx} {f : FuncId} {args : List AV} {σ : Heap} {R : Out → Heap → Prop} (h : CallOk cx f args σ (TR σ.length R)) : CallOk cx f args σ R := by
  refine ⟨h.1, fun r w vs hi hv => ?_⟩
  refine (h.2 r w vs hi hv).mono fun e w' ⟨o, σ', r', ⟨k, hk, hl, hR⟩, hor, hi', hx'⟩ => ?_
  obtain ⟨r2, q1, q2, q3, q4⟩ := trunc hi hi' hx' hk hl
  cases o with
  | ret v =>
    obtain ⟨res, hz, hR⟩ := hR
    cases e with
    | returned u => exact ⟨.ret res, _, r2, hR, q4 _ _ _ hz hor, q1, q2⟩
    | panicked chain => exact hor.elim
    | outgrown => exact hor.elim
  | panic v =>
    obtain ⟨hz, hR⟩ := hR
    cases e with
    | returned u => exact hor.elim
    | panicked chain =>
      obtain ⟨u, hu1, hu2⟩ := hor
      exact ⟨.panic v, _, r2, hR, ⟨u, hu1, q3 _ _ hz hu2⟩, q1, q2⟩
    | outgrown => exact hor.elim
theorem callOk_introT {cx : Cx} {f : FuncId} {fn : Func} {c : Code} {n : Nat} {args : List AV} {σ : Heap} {R : Out → Heap → Prop} (he : Enters cx.P f) (hf : cx.P.funcs[f]? = some fn) (hb : fn.body = some c) (hn : fn.ntmps = n) (ha : Nat.ble args.length n = true)
    (h : ∀ B, S cx n B [.code c] (retQ cx fn (TR σ.length R)) (enterFr 0 args) σ) : CallOk cx f args σ R :=
  callOk_trunc (callOk_intro he hf hb hn ha h)
end Go.Ab
end
section
set_option linter.unusedVariables false
set_option linter.unusedSimpArgs false
namespace Go.Ab
open Go
def StepX (cx : Cx) (n : Nat) (all : Array Oper) (σ σ' : Heap) (K : List Nat) (fr : Fr) (o : Oper) (v : AV) : Prop :=
  dstOk n o.dst = true ∧ ((guardA all o K fr = some false ∧ v = .tup [] ∧ σ' = σ) ∨ (guardA all o K fr = some true ∧ ∀ r a w, Inv cx r σ w → FRel r w n fr a → ∀ Q, o.wp cx.P a w (fun a' w' => ∃ r' v', a' = a.put o.dst v' ∧ VRel r' w' v' v ∧ Inv cx r' σ' w' ∧ Ext r σ w r' σ' w') Q))
theorem StepD.x {cx : Cx} {n : Nat} {all : Array Oper} {σ : Heap} {K : List Nat} {fr : Fr} {o : Oper} {v : AV} (h : StepD cx n all σ K fr o v) : StepX cx n all σ σ K fr o v := by
  refine ⟨h.1, ?_⟩
  rcases h.2 with ⟨h1, h2⟩ | h1
  · exact .inl ⟨h1, h2, rfl⟩
  · exact .inr h1
def hpC (σ σ' : Heap) (jc : Nat) (listed : Array Bool) : Heap := bif listed.getD jc false then σ' else σ
theorem hpC_in {σ σ' : Heap} {jc : Nat} {listed : Array Bool} (h : Listed listed jc) : hpC σ σ' jc listed = σ' := by
  have h : listed.getD jc false = true := h
  unfold hpC; rw [h]; rfl
theorem hpC_out {σ σ' : Heap} {jc : Nat} {listed : Array Bool} (h : listed.getD jc false = false) : hpC σ σ' jc listed = σ := by
  unfold hpC; rw [h]; rfl
theorem hpC_set {σ σ' : Heap} {i : Nat} {listed : Array Bool} (h : i < listed.size) : hpC σ σ' i (listed.setIfInBounds i true) = σ' :=
  hpC_in ((listed_set h).2 (.inl rfl))
theorem hpC_same {σ σ' : Heap} {i jc : Nat} {listed : Array Bool} (h : i < listed.size) (hn : i ≠ jc) : hpC σ σ' jc (listed.setIfInBounds i true) = hpC σ σ' jc listed := by
  unfold hpC
  have : (listed.setIfInBounds i true).getD jc false = listed.getD jc false := by
    simp only [Array.getD_eq_getD_getElem?, Array.getElem?_setIfInBounds, if_neg hn]
  rw [this]
section
variable {cx : Cx} {n : Nat} {B : Bs} {k : List AI} {Q : Post} {fr : Fr} {σ : Heap}
theorem wpAny_frontC {σ' : Heap} {jc : Nat} {ops : Array Oper} {m : Nat} {vals : List AV} {K : List Nat} {Q' : Exit → Act → World → Prop} (hjc : jc < m) (hmN : m ≤ ops.size) (hlen : vals.length = m)
    (hread : ∀ j o t, j < m → ops.toList[j]? = some o → t ∈ slotsOf ops.toList o → readOk ops.toList m j t = true)
    (huniq : ∀ i j d, i < m → j < m → dstOf ops.toList i = some d → dstOf ops.toList j = some d → i = j)
    (hch : ∀ j, m < j → j < ops.size → edge ops.toList j (j - 1) = true) (hlo : ∀ j i, edge ops.toList j i = true → i < j)
    (hcl : m < ops.size → ∀ i, i < m → ∃ k, i < k ∧ k ≤ m ∧ edge ops.toList k i = true)
    (hstep : ∀ (j : Nat) o v, j < m → ops.toList[j]? = some o → vals[j]? = some v → (j ≠ jc → ∀ b : Bool, StepX cx n ops (bif b then σ' else σ) (bif b then σ' else σ) K (restr ops.toList o (ovl (ops.toList.take j) (vals.take j) fr)) o v) ∧ (j = jc → StepX cx n ops σ σ' K (restr ops.toList o (ovl (ops.toList.take j) (vals.take j) fr)) o v))
    (hend : ∀ r a w, Inv cx r σ' w → FRel r w n (ovl (ops.toList.take m) vals fr) a → Dfs B a → Ext B.r B.σ B.w r σ' w → wpList cx.P ops Q' (ops.toList.drop m) a w) :
    ∀ (f : Nat) (listed : Array Bool) (r : Rl) (a : Act) (w : World), listed.size = ops.size → unl listed = f → Down ops.toList listed → (∀ j, m ≤ j → ¬ Listed listed j) →
      FL r w n fr ops.toList m vals listed a → Inv cx r (hpC σ σ' jc listed) w → Dfs B a → Ext B.r B.σ B.w r (hpC σ σ' jc listed) w → wpAny cx.P .any ops Q' f listed a w := by
  have ovlN : ∀ i, i ≤ m → ∀ vs, (ovl (ops.toList.take i) (vals.take i) fr).get n = .mark vs → fr.get n = .mark vs := by
    intro i him vs hm
    rcases ovl_get (ops.toList.take i) (vals.take i) fr n (by simp [hlen]; omega) with ⟨i', o', v', k1, k2, k3, k4⟩ | ⟨k1, k2⟩
    · exfalso
      have hi'i : i' < i := by
        rcases Nat.lt_or_ge i' i with h' | h'
        · exact h'
        · rw [List.getElem?_eq_none (by simp; omega)] at k1; cases k1
      rw [List.getElem?_take_of_lt hi'i] at k1 k3
      have hds : dstOk n o'.dst = true := by
        by_cases hij : i' = jc
        · exact ((hstep i' o' v' (by omega) k1 k3).2 hij).1
        · exact ((hstep i' o' v' (by omega) k1 k3).1 hij false).1
      rw [k2] at hds
      have := blt_lt hds
      omega
    · rw [← k2]; exact hm
  have fin : ∀ (f : Nat) (listed : Array Bool) (r : Rl) (a : Act) (w : World), listed.size = ops.size → unl listed = f → (∀ j, j < m → Listed listed j) → (∀ j, m ≤ j → ¬ Listed listed j) →
      FL r w n fr ops.toList m vals listed a → Inv cx r (hpC σ σ' jc listed) w → Dfs B a → Ext B.r B.σ B.w r (hpC σ σ' jc listed) w → wpAny cx.P .any ops Q' f listed a w := by
    intro f listed r a w hs hf hall hno hfl hi hd hx
    rw [hpC_in (hall jc hjc)] at hi hx
    have hcount : unl listed + m = ops.size := by
      have hl : listed.toList = List.replicate m true ++ List.replicate (ops.size - m) false := by
        apply List.ext_getElem
        · simp; omega
        · intro j h1 h2
          have hj : j < listed.size := by simpa using h1
          have h3 : listed.getD j false = listed.toList[j] := by simp [Array.getD_eq_getD_getElem?, hj]
          by_cases hjm : j < m
          · rw [List.getElem_append_left (by simpa using hjm), List.getElem_replicate, ← h3]; exact hall j hjm
          · rw [List.getElem_append_right (by simp; omega), List.getElem_replicate, ← h3]
            have := hno j (by omega)
            unfold Listed at this
            simpa using this
      unfold unl
      rw [hl, List.countP_append, List.countP_replicate, List.countP_replicate]
      simp; omega
    refine wpAny_tail hch hlo f m listed a w (by omega) (Nat.le_refl m) hs (fun i hi' => ⟨fun h => ?_, fun h => hall i h⟩) (hend r a w hi ⟨hfl.size, fun t => ?_, fun vs hm => ?_⟩ hd hx)
    case refine_3 =>
      refine hfl.defs vs (ovlN m (Nat.le_refl _) vs ?_)
      rw [show vals.take m = vals from List.take_of_length_le (by omega)]
      exact hm
    · rcases Nat.lt_or_ge i m with h' | h'
      · exact h'
      · exact absurd h (hno i h')
    · rcases ovl_get (ops.toList.take m) vals fr t (by simp [hlen]; omega) with ⟨i, o, v, h1, h2, h3, h4⟩ | ⟨h1, h2⟩
      · rw [h4]
        have him : i < m := by
          rcases Nat.lt_or_ge i m with h' | h'
          · exact h'
          · rw [List.getElem?_eq_none (by simp; omega)] at h1; cases h1
        rw [List.getElem?_take_of_lt him] at h1
        exact hfl.done i t v him (hall i him) (by simp [dstOf, h1, h2]) h3
      · rw [h2]
        refine hfl.rest t (fun j hj _ hdj => ?_)
        obtain ⟨o, ho, hod⟩ := Option.bind_eq_some_iff.1 hdj
        exact h1 j o (by rw [List.getElem?_take_of_lt hj]; exact ho) hod
  intro f
  induction f with
  | zero =>
    intro listed r a w hs hf hdn hno hfl hi hd hx
    refine fin 0 listed r a w hs hf (fun j hj => ?_) hno hfl hi hd hx
    rcases hb : listed.getD j false with _ | _
    · have := unl_set (by omega) hb
      omega
    · exact hb
  | succ f ih =>
    intro listed r a w hs hf hdn hno hfl hi hd hx
    by_cases hall : ∀ j, j < m → Listed listed j
    · exact fin (f + 1) listed r a w hs hf hall hno hfl hi hd hx
    have hex : ∃ j, j < m ∧ ¬ Listed listed j := by
      apply Classical.byContradiction
      intro h
      exact hall (fun j hj => Classical.byContradiction fun hl => h ⟨j, hj, hl⟩)
    refine ⟨fun h0 => ?_, fun i hir => ?_⟩
    · obtain ⟨j, h1, h2, h3⟩ := exists_least m hex
      have hjr : j ∈ Region.ready .any ops listed := by
        refine mem_ready.2 ⟨?_, ops[j]'(by omega), Array.getElem?_eq_getElem _, fun e he hb => ?_⟩
        · rw [listed_true (by omega)]; simpa [Listed] using h2
        · have h4 : e.on < j := hlo j e.on (edge_iff.2 ⟨ops[j]'(by omega), Array.getElem?_eq_getElem _, e, he, hb, rfl⟩)
          exact Classical.byContradiction fun h5 => h3 e.on h4 h5
      rw [h0] at hjr; cases hjr
    · obtain ⟨h0, o, ho, hedges⟩ := mem_ready.1 hir
      have hilt := (Array.getElem?_eq_some_iff.1 ho).1
      rw [listed_true (by omega)] at h0
      have hed : ∀ j, edge ops.toList i j = true → Listed listed j := by
        intro j hj
        obtain ⟨o', ho', e, he, hb, hon⟩ := edge_iff.1 hj
        rw [ho] at ho'; cases ho'
        rw [← hon]; exact hedges e he hb
      have him : i < m := by
        rcases Nat.lt_or_ge i m with h' | h'
        · exact h'
        · exfalso
          rcases Nat.eq_or_lt_of_le h' with h'' | h''
          · subst h''
            refine hall (fun j hj => ?_)
            have key : ∀ d j, d + j = m → j < m → Listed listed j := by
              intro d
              induction d using Nat.strongRecOn with
              | _ d ihd =>
                intro j hdj hj
                obtain ⟨k, h1, h2, h3⟩ := hcl hilt j hj
                rcases Nat.eq_or_lt_of_le h2 with h4 | h4
                · subst h4; exact hed j h3
                · exact hdn k j (ihd (m - k) (by omega) k (by omega) h4) h3
            exact key (m - j) j (by omega) hj
          · exact hno (i - 1) (by omega) (hed _ (hch i h'' hilt))
      have hol : ops.toList[i]? = some o := by simpa using ho
      obtain ⟨v, hv⟩ : ∃ v, vals[i]? = some v := ⟨vals[i]'(by omega), List.getElem?_eq_getElem _⟩
      have hX : StepX cx n ops (hpC σ σ' jc listed) (hpC σ σ' jc (listed.setIfInBounds i true)) K (restr ops.toList o (ovl (ops.toList.take i) (vals.take i) fr)) o v := by
        by_cases hij : i = jc
        · subst hij
          rw [hpC_out h0, hpC_set (by omega)]
          exact (hstep i o v him hol hv).2 rfl
        · rw [hpC_same (by omega) hij]
          exact (hstep i o v him hol hv).1 hij (listed.getD jc false)
      obtain ⟨hdst, hst⟩ := hX
      have hnl : ¬ Listed listed i := by simp [Listed, h0]
      have hfr : FRel r w n (restr ops.toList o (ovl (ops.toList.take i) (vals.take i) fr)) a := by
        refine ⟨hfl.size, fun t => ?_, fun vs hm => ?_⟩
        case refine_2 =>
          unfold restr at hm
          rcases restr_get (slotsOf ops.toList o) (ovl (ops.toList.take i) (vals.take i) fr) n with h | ⟨h1, h2⟩
          · rw [h] at hm; cases hm
          · rw [h2] at hm
            exact hfl.defs vs (ovlN i (by omega) vs hm)
        unfold restr
        rcases restr_get (slotsOf ops.toList o) (ovl (ops.toList.take i) (vals.take i) fr) t with h | ⟨h1, h2⟩
        · rw [h]; exact .top
        · rw [h2]
          have hro := hread i o t him hol h1
          have hrd : ∀ i', i' < m → dstOf ops.toList i' = some t → (i' < i → edge ops.toList i i' = true) ∧ (i < i' → edge ops.toList i' i = true) := by
            intro i' hi' hd'
            have := allB_mem hro _ (List.mem_map.2 ⟨i', List.mem_range.2 hi', rfl⟩)
            rw [eqDst_iff.2 hd'] at this
            simp only at this
            constructor
            · intro hlt
              rw [lt_blt hlt] at this
              exact this
            · intro hlt
              rw [show Nat.blt i' i = false by cases hbb : Nat.blt i' i with | false => rfl | true => (have := blt_lt hbb; omega), show Nat.beq i' i = false by cases hbb : Nat.beq i' i with | false => rfl | true => (have := Nat.eq_of_beq_eq_true hbb; omega)] at this
              exact this
          rcases ovl_get (ops.toList.take i) (vals.take i) fr t (by simp [hlen]; omega) with ⟨i', o', v', k1, k2, k3, k4⟩ | ⟨k1, k2⟩
          · rw [k4]
            have hi'i : i' < i := by
              rcases Nat.lt_or_ge i' i with h' | h'
              · exact h'
              · rw [List.getElem?_eq_none (by simp; omega)] at k1; cases k1
            rw [List.getElem?_take_of_lt hi'i] at k1 k3
            have hd' : dstOf ops.toList i' = some t := by simp only [dstOf, k1, Option.bind_some, k2]
            exact hfl.done i' t v' (by omega) (hed _ ((hrd i' (by omega) hd').1 hi'i)) hd' k3
          · rw [k2]
            refine hfl.rest t (fun j hj hlj hdj => ?_)
            rcases Nat.lt_trichotomy j i with h' | h' | h'
            · obtain ⟨oj, hoj, hod⟩ := Option.bind_eq_some_iff.1 hdj
              exact k1 j oj (by rw [List.getElem?_take_of_lt h']; exact hoj) hod
            · subst h'; exact hnl hlj
            · exact hnl (hdn j i hlj ((hrd j hj hdj).2 h'))
      have next : ∀ (r' : Rl) (w' : World) (v' : Value), VRel r' w' v' v → Inv cx r' (hpC σ σ' jc (listed.setIfInBounds i true)) w' → Ext r (hpC σ σ' jc listed) w r' (hpC σ σ' jc (listed.setIfInBounds i true)) w' → wpAny cx.P .any ops Q' f (listed.setIfInBounds i true) (a.put o.dst v') w' := by
        intro r' w' v' hv' hi' hx'
        have hun := unl_set (by omega) h0
        refine ih _ r' _ w' (by simpa using hs) (by omega) (fun j l hj he => ?_) (fun j hj hl => ?_) ⟨?_, fun j d u hj hl hdj hu => ?_, fun t ht => ?_, fun vs hm => by rw [Act.put_defers]; exact (hfl.defs vs hm).mono (hx'.grow hi)⟩ hi' (hd.put _ _) (hx.trans hx')
        · rw [listed_set (by omega)] at hj ⊢
          rcases hj with rfl | hj
          · exact .inr (hed l he)
          · exact .inr (hdn j l hj he)
        · rw [listed_set (by omega)] at hl
          rcases hl with rfl | hl
          · omega
          · exact hno j hj hl
        · cases hod : o.dst <;> simp [Act.put, hfl.size]
        · have hg := hx'.grow hi
          rw [listed_set (by omega)] at hl
          by_cases hji : j = i
          · subst hji
            rw [hv] at hu; cases hu
            have hod : o.dst = some d := by simpa [dstOf, hol] using hdj
            rw [hod]
            rw [hod] at hdst
            simp only [Act.put]
            rw [getD_setIfInBounds (by rw [hfl.size]; exact blt_lt hdst), if_pos rfl]
            exact hv'
          · have hl' := hl.resolve_left hji
            have hold := (hfl.done j d u hj hl' hdj hu).mono hg
            cases hod : o.dst with
            | none => exact hold
            | some d' =>
              have hne : d' ≠ d := fun e => hji (huniq j i d hj him hdj (by subst e; simp [dstOf, hol, hod]))
              rw [hod] at hdst
              simp only [Act.put]
              rw [getD_setIfInBounds (by rw [hfl.size]; exact blt_lt hdst), if_neg hne]
              exact hold
        · have hg := hx'.grow hi
          have hold := (hfl.rest t (fun j hj hl => ht j hj ((listed_set (by omega)).2 (.inr hl)))).mono hg
          have hti := ht i him ((listed_set (by omega)).2 (.inl rfl))
          cases hod : o.dst with
          | none => exact hold
          | some d' =>
            have hne : d' ≠ t := fun e => hti (by subst e; simp [dstOf, hol, hod])
            rw [hod] at hdst
            simp only [Act.put]
            rw [getD_setIfInBounds (by rw [hfl.size]; exact blt_lt hdst), if_neg hne]
            exact hold
      unfold wpOp
      simp only [ho]
      rcases hst with ⟨hg, rfl, hσ⟩ | ⟨hg, hgo⟩
      · rw [guardA_wanted (cx := cx) hfr hg]
        simp only [Bool.false_eq_true, if_false]
        exact next r w undef (.tup rfl (fun i h => absurd h (by simp))) (by rw [hσ]; exact hi) (by rw [hσ]; exact Ext.refl _ _ _)
      · rw [guardA_wanted (cx := cx) hfr hg]
        simp only [if_true]
        refine .inl (Oper.wp_mono (fun a' w' h => ?_) (hgo r a w hi hfr Q'))
        obtain ⟨r', v', rfl, h2, h3, h4⟩ := h
        exact next r' w' v' h2 h3 h4
def noA : List Nat → Bool
  | [] => false
  | n :: _ => Nat.beq n 1000001
def aOpK (cx : Cx) (K : List Nat) (dst : Option Nat) (o : Op) (fr : Fr) (σ : Heap) : Option (List Prop × AV × Heap) := match noA K with
  | true => none
  | false => aOp cx [] dst o fr σ
theorem aOpK_some {cx : Cx} {K : List Nat} {dst : Option Nat} {o : Op} {fr : Fr} {σ : Heap} {y : List Prop × AV × Heap} (h : aOpK cx K dst o fr σ = some y) : aOp cx [] dst o fr σ = some y := by
  unfold aOpK at h
  split at h
  · cases h
  · exact h
def runC (cx : Cx) (K : List Nat) (n : Nat) (all : Array Oper) (ops : List Oper) (σ σ' : Heap) (jc : Nat) : List Oper → Nat → Fr → List AV → Option (List Prop × List AV × Fr)
  | [], _, fr, rs => some ([], [], fr)
  | o :: r, i, fr, rs => match Nat.beq i jc with
    | true => match rs with
      | v :: rs => match dstOk n o.dst with
        | true => match guardA all o K (restr ops o fr) with
          | some true => match callA cx (restr ops o fr) o.op with
            | some (f, args) => match runC cx K n all ops σ σ' jc r (i + 1) (setA o.dst v fr) rs with
              | some (D, vs, fr') => some ((∃ args', CallOk cx f args' σ (fun out σ1 => out = .ret v ∧ σ1 = σ') ∧ args = args') :: D, v :: vs, fr')
              | none => none
            | none => match aOpK cx K o.dst o.op (restr ops o fr) σ with
              | some (C', v', σ1) => match runC cx K n all ops σ σ' jc r (i + 1) (setA o.dst v fr) rs with
                | some (D, vs, fr') => some (C' ++ ((v' = v) :: (σ1 = σ') :: D), v :: vs, fr')
                | none => none
              | none => match runC cx K n all ops σ σ' jc r (i + 1) (setA o.dst v fr) rs with
                | some (D, vs, fr') => some ((OpSpec cx n (restr ops o fr) σ o v σ') :: D, v :: vs, fr')
                | none => none
          | _ => none
        | false => none
      | [] => none
    | false => match oneD cx K n all σ o (restr ops o fr) rs with
      | some (C, v, rs') => match oneD cx K n all σ' o (restr ops o fr) rs with
        | some (C', v', _) => forceV v fun v => match runC cx K n all ops σ σ' jc r (i + 1) (setA o.dst v fr) rs' with
          | some (D, vs, fr') => some (C ++ (C' ++ ((v' = v) :: D)), v :: vs, fr')
          | none => none
        | none => none
      | none => none
theorem callC_step {σ' : Heap} {K : List Nat} {all : Array Oper} {o : Oper} {f : FuncId} {args : List AV} {v : AV} (hd : dstOk n o.dst = true) (hg : guardA all o K fr = some true) (hc : callA cx fr o.op = some (f, args))
    (h : CallOk cx f args σ (fun out σ1 => out = .ret v ∧ σ1 = σ')) : StepX cx n all σ σ' K fr o v := by
  refine ⟨hd, .inr ⟨hg, fun r a w hi hf Q => ?_⟩⟩
  obtain ⟨vs, h1, h2⟩ := callA_run hi hf hc h.1
  unfold Oper.wp
  rw [h1, Oper.upon_enter]
  refine (h.2 r w vs hi h2).mono fun e w' ⟨out, σ1, r', ⟨ho, hσ⟩, hor, hi', hx'⟩ => ?_
  subst ho; subst hσ
  cases e with
  | returned u => exact ⟨r', u, rfl, hor, hi', hx'⟩
  | panicked chain => exact hor.elim
  | outgrown => exact hor.elim
theorem opC_step {σ' : Heap} {K : List Nat} {all : Array Oper} {o : Oper} {C : List Prop} {v : AV} (hd : dstOk n o.dst = true) (hg : guardA all o K fr = some true) (ha : aOp cx [] o.dst o.op fr σ = some (C, v, σ')) (hC : AllP C) : StepX cx n all σ σ' K fr o v := by
  refine ⟨hd, .inr ⟨hg, fun r a w hi hf Q => ?_⟩⟩
  obtain ⟨r', w', v', hrun, hv, hi', hx'⟩ := aOp_run hi hf ha hC
  unfold Oper.wp
  rcases hrun with hrun | ⟨hrun, hu⟩
  · rw [hrun]; exact ⟨r', v', rfl, hv, hi', hx'⟩
  · rw [hrun]; subst hu; exact ⟨r', _, rfl, hv, hi', hx'⟩
theorem specC_step {σ' : Heap} {K : List Nat} {all : Array Oper} {o : Oper} {v : AV} (hd : dstOk n o.dst = true) (hg : guardA all o K fr = some true) (h : OpSpec cx n fr σ o v σ') : StepX cx n all σ σ' K fr o v := by
  refine ⟨hd, .inr ⟨hg, fun r a w hi hf Q => ?_⟩⟩
  obtain ⟨r', w', v', hrun, hv, hi', hx'⟩ := h r a w hi hf
  unfold Oper.wp
  rcases hrun with hrun | ⟨hrun, hu⟩
  · rw [hrun]; exact ⟨r', v', rfl, hv, hi', hx'⟩
  · rw [hrun]; subst hu; exact ⟨r', _, rfl, hv, hi', hx'⟩
theorem runC_spec {σ' : Heap} {jc : Nat} {K : List Nat} {all : Array Oper} {ops : List Oper} : ∀ {l : List Oper} {i : Nat} {fr fr' : Fr} {rs vals : List AV} {C : List Prop}, runC cx K n all ops σ σ' jc l i fr rs = some (C, vals, fr') → AllP C →
    vals.length = l.length ∧ fr' = ovl l vals fr ∧ ∀ (j : Nat) (o : Oper) (v : AV), l[j]? = some o → vals[j]? = some v →
      (i + j ≠ jc → ∀ b : Bool, StepX cx n all (bif b then σ' else σ) (bif b then σ' else σ) K (restr ops o (ovl (l.take j) (vals.take j) fr)) o v) ∧ (i + j = jc → StepX cx n all σ σ' K (restr ops o (ovl (l.take j) (vals.take j) fr)) o v)
  | [], i, fr, fr', rs, vals, C, h, hC => by
    simp only [runC, Option.some.injEq, Prod.mk.injEq] at h
    obtain ⟨rfl, rfl, rfl⟩ := h
    exact ⟨rfl, rfl, fun j o v h => by simp at h⟩
  | o :: l, i, fr, fr', rs, vals, C, h, hC => by
    simp only [runC] at h
    split at h
    · rename_i hb
      have hij : i = jc := Nat.eq_of_beq_eq_true hb
      split at h
      case h_2 => cases h
      rename_i v rs'
      split at h
      case h_2 => cases h
      rename_i hds
      split at h
      case h_2 => cases h
      rename_i hg
      split at h
      case h_2 =>
        split at h
        case h_2 =>
          split at h
          case h_2 => cases h
          rename_i D vs fr1 h2
          simp only [Option.some.injEq, Prod.mk.injEq] at h
          obtain ⟨rfl, rfl, rfl⟩ := h
          obtain ⟨hsp, hD⟩ := hC
          obtain ⟨k1, k2, k3⟩ := runC_spec h2 hD
          refine ⟨by simp [k1], by rw [k2]; rfl, fun j oj vj hj hvj => ?_⟩
          cases j with
          | zero =>
            simp only [List.getElem?_cons_zero, Option.some.injEq] at hj hvj
            subst hj; subst hvj
            exact ⟨fun h => absurd hij h, fun _ => specC_step hds hg hsp⟩
          | succ j =>
            simp only [List.getElem?_cons_succ] at hj hvj
            have := k3 j oj vj hj hvj
            rw [show i + 1 + j = i + (j + 1) by omega] at this
            exact this
        rename_i C' v' σ1 ha
        have ha := aOpK_some ha
        split at h
        case h_2 => cases h
        rename_i D vs fr1 h2
        simp only [Option.some.injEq, Prod.mk.injEq] at h
        obtain ⟨rfl, rfl, rfl⟩ := h
        obtain ⟨hC', hv, hσ, hD⟩ := AllP_append hC
        subst hv; subst hσ
        obtain ⟨k1, k2, k3⟩ := runC_spec h2 hD
        refine ⟨by simp [k1], by rw [k2]; rfl, fun j oj vj hj hvj => ?_⟩
        cases j with
        | zero =>
          simp only [List.getElem?_cons_zero, Option.some.injEq] at hj hvj
          subst hj; subst hvj
          exact ⟨fun h => absurd hij h, fun _ => opC_step hds hg ha hC'⟩
        | succ j =>
          simp only [List.getElem?_cons_succ] at hj hvj
          have := k3 j oj vj hj hvj
          rw [show i + 1 + j = i + (j + 1) by omega] at this
          exact this
      rename_i f args hc
      split at h
      case h_2 => cases h
      rename_i D vs fr1 h2
      simp only [Option.some.injEq, Prod.mk.injEq] at h
      obtain ⟨rfl, rfl, rfl⟩ := h
      obtain ⟨⟨args', hcall, rfl⟩, hD⟩ := hC
      obtain ⟨k1, k2, k3⟩ := runC_spec h2 hD
      refine ⟨by simp [k1], by rw [k2]; rfl, fun j oj vj hj hvj => ?_⟩
      cases j with
      | zero =>
        simp only [List.getElem?_cons_zero, Option.some.injEq] at hj hvj
        subst hj; subst hvj
        exact ⟨fun h => absurd hij h, fun _ => callC_step hds hg hc hcall⟩
      | succ j =>
        simp only [List.getElem?_cons_succ] at hj hvj
        have := k3 j oj vj hj hvj
        rw [show i + 1 + j = i + (j + 1) by omega] at this
        exact this
    · rename_i hb
      have hij : i ≠ jc := fun e => by rw [e, Nat.beq_refl] at hb; cases hb
      split at h
      case h_2 => cases h
      rename_i C1 v rs' h1
      split at h
      case h_2 => cases h
      rename_i C1' v' _ h1'
      rw [forceV_eq] at h
      split at h
      case h_2 => cases h
      rename_i D vs fr1 h2
      simp only [Option.some.injEq, Prod.mk.injEq] at h
      obtain ⟨rfl, rfl, rfl⟩ := h
      obtain ⟨hC1, hD1⟩ := AllP_append hC
      obtain ⟨hC1', hD2⟩ := AllP_append hD1
      obtain ⟨hv, hD⟩ := hD2
      subst hv
      obtain ⟨k1, k2, k3⟩ := runC_spec h2 hD
      refine ⟨by simp [k1], by rw [k2]; rfl, fun j oj vj hj hvj => ?_⟩
      cases j with
      | zero =>
        simp only [List.getElem?_cons_zero, Option.some.injEq] at hj hvj
        subst hj; subst hvj
        refine ⟨fun _ b => ?_, fun h => absurd h hij⟩
        cases b with
        | true => exact (oneD_spec h1' hC1').x
        | false => exact (oneD_spec h1 hC1).x
      | succ j =>
        simp only [List.getElem?_cons_succ] at hj hvj
        have := k3 j oj vj hj hvj
        rw [show i + 1 + j = i + (j + 1) by omega] at this
        exact this
theorem S_drawC {id : Nat} (σ' : Heap) (jc : Nat) {ops : Array Oper} {vals : List AV} {C : List Prop} {fr' : Fr} (m : Nat) (K : List Nat) (rs : List AV) (hP : cx.P.follows .mixedOrders = true) (hchk : drawOk ops.toList m = true) (hmN : Nat.ble m ops.size = true) (hjc : Nat.blt jc m = true)
    (hrun : runC cx K n ops ops.toList σ σ' jc (ops.toList.take m) 0 fr rs = some (C, vals, fr')) (hC : AllP C)
    (hk : S cx n B (.ops ops (ops.toList.drop m) [] :: k) Q fr' σ') : S cx n B (.code (.region id ops true) :: k) Q fr σ := by
  intro r a w hi hf hd hx
  obtain ⟨c1, c2, c3, c4, c5⟩ := drawOk_spec hchk
  obtain ⟨k1, k2, k3⟩ := runC_spec hrun hC
  have hmN' := Nat.le_of_ble_eq_true hmN
  have hlen : vals.length = m := by rw [k1]; simp; omega
  obtain ⟨hi1, hx1⟩ := hi.heap_eq (w' := { w with drawn := w.drawn + 1 }) rfl rfl rfl rfl
  have hf1 := hf.mono (hx1.grow hi)
  have nl : ∀ {j : Nat}, ¬ Listed (Array.replicate ops.size false) j := by
    intro j hj
    unfold Listed at hj
    rw [Array.getD_eq_getD_getElem?, Array.getElem?_replicate] at hj
    split at hj <;> simp at hj
  have h0 : hpC σ σ' jc (Array.replicate ops.size false) = σ := hpC_out (by
    cases hb : (Array.replicate ops.size false).getD jc false with
    | false => rfl
    | true => exact absurd hb nl)
  refine wp_region_any hP ?_
  refine wpAny_frontC (σ' := σ') (jc := jc) (cx := cx) (n := n) (B := B) (fr := fr) (σ := σ) (m := m) (vals := vals) (K := K) (blt_lt hjc) hmN' hlen c1 c2 c3 c4 c5 (fun j o v hj ho hv => ?_) (fun r a w hi hf hd hx => ?_) ops.size _ r a _ (by simp) ?_ (fun j i hj => ?_) (fun j _ => ?_) ⟨hf1.size, fun j d v _ hj => ?_, fun t _ => hf1.get t, hf1.defs⟩ (by rw [h0]; exact hi1) hd (by rw [h0]; exact hx.trans hx1)
  · have h := k3 j o v (by rw [List.getElem?_take_of_lt hj]; exact ho) hv
    rw [List.take_take, Nat.min_eq_left (by omega), Nat.zero_add] at h
    exact h
  · rw [k2] at hk
    exact hk r a w hi hf hd hx
  · unfold unl; simp [List.countP_replicate]
  · exact absurd hj nl
  · exact nl
  · exact absurd hj nl
def normC (x : Option (List Prop × List AV × Fr)) : Option (List Prop × List AV × Fr) := match x with
  | some (C, v, f) => forceL C fun C => some (C, v, f)
  | none => none
theorem normC_eq (x : Option (List Prop × List AV × Fr)) : normC x = x := by
  unfold normC
  split
  · rw [forceL_eq]
  · rfl
theorem S_drawCN {id : Nat} (σ' : Heap) (jc : Nat) {ops : Array Oper} {vals : List AV} {C : List Prop} {fr' : Fr} (m : Nat) (K : List Nat) (rs : List AV) (hP : cx.P.follows .mixedOrders = true) (hchk : drawOk ops.toList m = true) (hmN : Nat.ble m ops.size = true) (hjc : Nat.blt jc m = true)
    (hrun : normC (runC cx K n ops ops.toList σ σ' jc (ops.toList.take m) 0 fr rs) = some (C, vals, fr')) (hC : AllP C)
    (hk : S cx n B (.ops ops (ops.toList.drop m) [] :: k) Q fr' σ') : S cx n B (.code (.region id ops true) :: k) Q fr σ :=
  S_drawC σ' jc m K rs hP hchk hmN hjc (by rw [← normC_eq (runC cx K n ops ops.toList σ σ' jc (ops.toList.take m) 0 fr rs)]; exact hrun) hC hk
end
end Go.Ab
end
section
set_option linter.unusedVariables false
set_option linter.unusedSimpArgs false
namespace Go.Ab
open Go
theorem AllP_cons {p : Prop} {r : List Prop} (h : p) (hr : AllP r) : AllP (p :: r) := ⟨h, hr⟩
theorem aC {p : Prop} (h : p := by first | exact trivial | assumption | omega | rfl | exact decide_eq_true (by omega) | exact decide_eq_false (by omega) | (rw [IntWalk.i64_in _ ⟨by omega, by omega⟩]; omega) | exact allOne_mem rfl | exact Nat.le_of_ble_eq_true rfl | (simp only [List.length_cons, List.length_nil]; omega)) : p := h
theorem fl {p : Prop} (h : p := by (simp only [List.length_append, List.length_cons, List.length_nil, List.flatten_append, List.flatten_cons, List.flatten_nil, List.append_nil] at * <;> omega)) : p := h
inductive Ht where
  | k (x : AV)
  | v (x : AV)
  | c (x : AV) (σ : Heap)
  | b (t : Bool)
  | f (x : AV) (g : Heap → Heap)
  | d (jc m : Nat) (K : List Nat) (g : Heap → Heap) (rs : List AV)
  | o (x : AV) (g : Heap → Heap)
  | s
def stopH : List Ht → Bool
  | .s :: _ => true
  | _ => false
def chgOp : Op → Bool
  | .alloc _ => true
  | .box .. => true
  | .store .. => true
  | .makeSlice .. => true
  | .range .. => true
  | .makeMap .. => true
  | .mapUpdate .. => true
  | .mapEntry .. => true
  | .entryStore .. => true
  | .next .. => true
  | .call { callee := .builtin b, .. } => match b with
    | .append | .copy | .delete | .clear => true
    | _ => false
  | _ => false
def outH : List Ht → Option (AV × (Heap → Heap) × List Ht)
  | .o x g :: hs => some (x, g, hs)
  | _ => none
def isGuard (ops : List Oper) (i : Nat) : Bool := match ops with
  | [] => false
  | o :: r => match o.guard with
    | some (j, _) => Nat.beq i j || isGuard r i
    | none => isGuard r i
def guardKs (ops : List Oper) : List Oper → List Nat
  | [] => []
  | o :: r => match o.guard with
    | some (j, _) => match dstOf ops j with
      | some d => d :: guardKs ops r
      | none => guardKs ops r
    | none => guardKs ops r
def rsOf : List Ht → List AV
  | .v r :: _ => [r]
  | _ => []
def tailIf (hs : List Ht) (rs' : List AV) : List Ht := match rs' with
  | [] => match hs with
    | .v _ :: hs => hs
    | hs => hs
  | _ :: _ => hs
section
variable {cx : Cx} {n : Nat} {B : Bs} {k : List AI} {Q : Post} {fr : Fr} {σ : Heap}
def plainOp : Op → Bool
  | .call _ => false
  | .indexAddr .. => false
  | _ => true
def oneH (cx : Cx) (K : List Nat) (n : Nat) (all : Array Oper) (σ : Heap) (o : Oper) (fr : Fr) (hs : List Ht) : Option (List Prop × AV × List Ht) :=
  match chgOp o.op with
  | true => none
  | false => match plainOp o.op with
    | true => match dstOk n o.dst with
      | true => match guardA all o K fr with
        | some true => match aPure cx o.op fr σ with
          | some (C, v) => some (C, v, hs)
          | none => match oneD cx K n all σ o fr (rsOf hs) with
            | some (C, v, rs') => some (C, v, tailIf hs rs')
            | none => none
        | some false => some ([], .tup [], hs)
        | none => none
      | false => none
    | false => match hs with
      | .k x :: hs => match dstOk n o.dst with
        | true => match guardA all o K fr with
          | some true => match callA cx fr o.op with
            | some (f, args) => some ([CallOk cx f args σ (fun e s => e = .ret x ∧ s = σ)], x, hs)
            | none => none
          | some false => some ([], .tup [], .k x :: hs)
          | none => none
        | false => none
      | hs => match oneD cx K n all σ o fr (rsOf hs) with
        | some (C, v, rs') => some (C, v, tailIf hs rs')
        | none => none
theorem oneH_spec {K : List Nat} {all : Array Oper} {o : Oper} {fr : Fr} {hs hs' : List Ht} {C : List Prop} {v : AV} (h : oneH cx K n all σ o fr hs = some (C, v, hs')) (hC : AllP C) : StepD cx n all σ K fr o v := by
  unfold oneH at h
  have key : ∀ {x : Option (List Prop × AV × List Ht)}, (x = match oneD cx K n all σ o fr (rsOf hs) with | some (C, v, rs') => some (C, v, tailIf hs rs') | none => none) → x = some (C, v, hs') → StepD cx n all σ K fr o v := by
    intro x hx h1
    rw [h1] at hx
    split at hx
    · rename_i C' v' rs' hd
      simp only [Option.some.injEq, Prod.mk.injEq] at hx
      obtain ⟨rfl, rfl, rfl⟩ := hx
      exact oneD_spec hd hC
    · cases hx
  split at h
  · cases h
  split at h
  · split at h
    · rename_i hdst
      split at h
      · rename_i hg
        split at h
        · rename_i C' v' hp
          simp only [Option.some.injEq, Prod.mk.injEq] at h
          obtain ⟨rfl, rfl, rfl⟩ := h
          refine ⟨hdst, .inr ⟨hg, fun r a w hi hf Q => ?_⟩⟩
          obtain ⟨u, h1, h2⟩ := aPure_run hi hf hp hC
          unfold Oper.wp
          rw [h1]
          exact ⟨r, u, rfl, h2, hi, Ext.refl r σ w⟩
        · exact key rfl h
      · rename_i hg
        simp only [Option.some.injEq, Prod.mk.injEq] at h
        obtain ⟨rfl, rfl, rfl⟩ := h
        exact ⟨hdst, .inl ⟨hg, rfl⟩⟩
      · cases h
    · cases h
  · split at h
    · rename_i x hs1
      split at h
      · rename_i hdst
        split at h
        · rename_i hg
          split at h
          · rename_i f args hc
            simp only [Option.some.injEq, Prod.mk.injEq] at h
            obtain ⟨rfl, rfl, rfl⟩ := h
            refine ⟨hdst, .inr ⟨hg, fun r a w hi hf Q => ?_⟩⟩
            obtain ⟨vs, h1, h2⟩ := callA_run hi hf hc hC.1.1
            unfold Oper.wp
            rw [h1, Oper.upon_enter]
            refine (hC.1.2 r w vs hi h2).mono fun e w' ⟨out, σ', r1, ⟨ho, hσ'⟩, hor, hi1, hx1⟩ => ?_
            subst ho; subst hσ'
            cases e with
            | returned u => exact ⟨r1, u, rfl, hor, hi1, hx1⟩
            | panicked chain => exact hor.elim
            | outgrown => exact hor.elim
          · cases h
        · rename_i hg
          simp only [Option.some.injEq, Prod.mk.injEq] at h
          obtain ⟨rfl, rfl, rfl⟩ := h
          exact ⟨hdst, .inl ⟨hg, rfl⟩⟩
        · cases h
      · cases h
    · exact key rfl h
structure Hd where
  C : List Prop
  vals : List AV
  fr : Fr
  m : Nat
  hs : List Ht
def runH (cx : Cx) (K : List Nat) (n : Nat) (all : Array Oper) (ops : List Oper) (σ : Heap) : List Oper → Nat → Fr → List Ht → Hd
  | [], i, fr, hs => ⟨[], [], fr, i, hs⟩
  | o :: r, i, fr, hs => match oneH cx K n all σ o (restr ops o fr) hs with
    | none => ⟨[], [], fr, i, hs⟩
    | some (C, v, hs') => match isGuard ops i with
      | false => forceV v fun v => match runH cx K n all ops σ r (i + 1) (setA o.dst v fr) hs' with
        | ⟨D, vs, fr', m, hs''⟩ => ⟨C ++ D, v :: vs, fr', m, hs''⟩
      | true => match v with
        | .bool b => match hs' with
          | .b t :: hs' => match runH cx K n all ops σ r (i + 1) (setA o.dst (.bool t) fr) hs' with
            | ⟨D, vs, fr', m, hs''⟩ => ⟨C ++ ((b = t) :: D), .bool t :: vs, fr', m, hs''⟩
          | _ => ⟨[], [], fr, i, hs⟩
        | .tup us => match runH cx K n all ops σ r (i + 1) (setA o.dst (.tup us) fr) hs' with
          | ⟨D, vs, fr', m, hs''⟩ => ⟨C ++ D, .tup us :: vs, fr', m, hs''⟩
        | _ => ⟨[], [], fr, i, hs⟩
def runHK {α : Type} (cx : Cx) (K : List Nat) (n : Nat) (all : Array Oper) (ops : List Oper) (σ : Heap) : List Oper → Nat → Fr → List Ht → (List Prop → List AV → Fr → Nat → List Ht → α) → α
  | [], i, fr, hs, c => c [] [] fr i hs
  | o :: r, i, fr, hs, c => match oneH cx K n all σ o (restr ops o fr) hs with
    | none => c [] [] fr i hs
    | some (C, v, hs') => match isGuard ops i with
      | false => forceV v fun v => runHK cx K n all ops σ r (i + 1) (setA o.dst v fr) hs' fun D vs fr' m hs'' => c (C ++ D) (v :: vs) fr' m hs''
      | true => match v with
        | .bool b => match hs' with
          | .b t :: hs' => runHK cx K n all ops σ r (i + 1) (setA o.dst (.bool t) fr) hs' fun D vs fr' m hs'' => c (C ++ ((b = t) :: D)) (.bool t :: vs) fr' m hs''
          | _ => c [] [] fr i hs
        | .tup us => runHK cx K n all ops σ r (i + 1) (setA o.dst (.tup us) fr) hs' fun D vs fr' m hs'' => c (C ++ D) (.tup us :: vs) fr' m hs''
        | _ => c [] [] fr i hs
theorem runHK_eq {α : Type} {K : List Nat} {all : Array Oper} {ops : List Oper} : ∀ (l : List Oper) (i : Nat) (fr : Fr) (hs : List Ht) (c : List Prop → List AV → Fr → Nat → List Ht → α),
    runHK cx K n all ops σ l i fr hs c = c (runH cx K n all ops σ l i fr hs).C (runH cx K n all ops σ l i fr hs).vals (runH cx K n all ops σ l i fr hs).fr (runH cx K n all ops σ l i fr hs).m (runH cx K n all ops σ l i fr hs).hs
  | [], i, fr, hs, c => rfl
  | o :: l, i, fr, hs, c => by
    unfold runHK runH
    split
    · rfl
    · split
      · simp only [forceV_eq]
        rw [runHK_eq l]
      · split
        · split
          · rw [runHK_eq l]
          · rfl
        · rw [runHK_eq l]
        · rfl
def HdOk (cx : Cx) (K : List Nat) (n : Nat) (all : Array Oper) (ops : List Oper) (σ : Heap) (l : List Oper) (i : Nat) (fr : Fr) (H : Hd) : Prop :=
  i ≤ H.m ∧ H.m - i ≤ l.length ∧ H.vals.length = H.m - i ∧ H.fr = ovl (l.take (H.m - i)) H.vals fr ∧
    ∀ (j : Nat) (o : Oper) (v : AV), j < H.m - i → l[j]? = some o → H.vals[j]? = some v → StepD cx n all σ K (restr ops o (ovl (l.take j) (H.vals.take j) fr)) o v
theorem HdOk.stop {K : List Nat} {all : Array Oper} {ops l : List Oper} {i : Nat} {fr : Fr} {hs : List Ht} : HdOk cx K n all ops σ l i fr ⟨[], [], fr, i, hs⟩ := by
  refine ⟨Nat.le_refl _, ?_, ?_, ?_, fun j o v h => ?_⟩
  · show i - i ≤ _; omega
  · show 0 = i - i; omega
  · show fr = ovl (l.take (i - i)) [] fr
    rw [Nat.sub_self]; rfl
  · exfalso; have h : j < i - i := h; omega
theorem HdOk.cons {K : List Nat} {all : Array Oper} {ops l : List Oper} {o : Oper} {i : Nat} {fr fr1 : Fr} {v : AV} {D E : List Prop} {vs : List AV} {m : Nat} {hs : List Ht}
    (h1 : StepD cx n all σ K (restr ops o fr) o v) (h : HdOk cx K n all ops σ l (i + 1) (setA o.dst v fr) ⟨D, vs, fr1, m, hs⟩) : HdOk cx K n all ops σ (o :: l) i fr ⟨E, v :: vs, fr1, m, hs⟩ := by
  obtain ⟨k1, k2, k3, k4, k5⟩ := h
  have k1 : i + 1 ≤ m := k1
  have k2 : m - (i + 1) ≤ l.length := k2
  have k3 : vs.length = m - (i + 1) := k3
  have k4 : fr1 = ovl (l.take (m - (i + 1))) vs (setA o.dst v fr) := k4
  have e : m - i = (m - (i + 1)) + 1 := by omega
  refine ⟨?_, ?_, ?_, ?_, fun j oj vj hj ho hv => ?_⟩
  · show i ≤ m; omega
  · show m - i ≤ l.length + 1; omega
  · show vs.length + 1 = m - i; omega
  · show fr1 = ovl ((o :: l).take (m - i)) (v :: vs) fr
    rw [e, List.take_succ_cons, k4]; rfl
  · have hj : j < m - i := hj
    cases j with
    | zero =>
      have ho : some o = some oj := ho
      have hv : some v = some vj := hv
      cases ho; cases hv
      exact h1
    | succ j => exact k5 j oj vj (by show j < m - (i + 1); omega) ho hv
theorem runH_spec {K : List Nat} {all : Array Oper} {ops : List Oper} : ∀ (l : List Oper) (i : Nat) (fr : Fr) (hs : List Ht), AllP (runH cx K n all ops σ l i fr hs).C → HdOk cx K n all ops σ l i fr (runH cx K n all ops σ l i fr hs)
  | [], i, fr, hs, _ => HdOk.stop
  | o :: l, i, fr, hs, hC => by
    unfold runH at hC ⊢
    split at hC
    · exact HdOk.stop
    · rename_i C v hs' h1
      split at hC
      · simp only [forceV_eq] at hC ⊢
        have ih := runH_spec (K := K) (all := all) (ops := ops) l (i + 1) (setA o.dst v fr) hs'
        generalize runH cx K n all ops σ l (i + 1) (setA o.dst v fr) hs' = H at hC ih ⊢
        obtain ⟨D, vs, fr', m, hs''⟩ := H
        obtain ⟨hC1, hC2⟩ := AllP_append hC
        exact HdOk.cons (oneH_spec h1 hC1) (ih hC2)
      · split at hC
        · rename_i b
          split at hC
          · rename_i t hs1
            have ih := runH_spec (K := K) (all := all) (ops := ops) l (i + 1) (setA o.dst (.bool t) fr) hs1
            generalize runH cx K n all ops σ l (i + 1) (setA o.dst (.bool t) fr) hs1 = H at hC ih ⊢
            obtain ⟨D, vs, fr', m, hs''⟩ := H
            obtain ⟨hC1, hb, hC2⟩ := AllP_append hC
            subst hb
            exact HdOk.cons (oneH_spec h1 hC1) (ih hC2)
          · exact HdOk.stop
        · rename_i us
          have ih := runH_spec (K := K) (all := all) (ops := ops) l (i + 1) (setA o.dst (.tup us) fr) hs'
          generalize runH cx K n all ops σ l (i + 1) (setA o.dst (.tup us) fr) hs' = H at hC ih ⊢
          obtain ⟨D, vs, fr', m, hs''⟩ := H
          obtain ⟨hC1, hC2⟩ := AllP_append hC
          exact HdOk.cons (oneH_spec h1 hC1) (ih hC2)
        · exact HdOk.stop
theorem S_drawH {id : Nat} {ops : Array Oper} (K : List Nat) (H : Hd) (hs : List Ht) (hP : cx.P.follows .mixedOrders = true) (hrun : runH cx K n ops ops.toList σ ops.toList 0 fr hs = H) (hchk : drawOk ops.toList H.m = true) (hC : AllP H.C)
    (hk : S cx n B (.ops ops (ops.toList.drop H.m) [] :: k) Q H.fr σ) : S cx n B (.code (.region id ops true) :: k) Q fr σ := by
  intro r a w hi hf hd hx
  subst hrun
  have hspec := runH_spec (K := K) (all := ops) (ops := ops.toList) (n := n) (cx := cx) (σ := σ) ops.toList 0 fr hs hC
  generalize runH cx K n ops ops.toList σ ops.toList 0 fr hs = H at hspec hchk hC hk
  obtain ⟨C, vals, fr', m, hs'⟩ := H
  obtain ⟨_, k2, k3, k4, k5⟩ := hspec
  simp only [Nat.sub_zero] at k2 k3 k4 k5 hchk hk
  obtain ⟨c1, c2, c3, c4, c5⟩ := drawOk_spec hchk
  obtain ⟨hi1, hx1⟩ := hi.heap_eq (w' := { w with drawn := w.drawn + 1 }) rfl rfl rfl rfl
  have hf1 := hf.mono (hx1.grow hi)
  have nl : ∀ {j : Nat}, ¬ Listed (Array.replicate ops.size false) j := by
    intro j hj
    unfold Listed at hj
    rw [Array.getD_eq_getD_getElem?, Array.getElem?_replicate] at hj
    split at hj <;> simp at hj
  refine wp_region_any hP ?_
  refine wpAny_front (cx := cx) (n := n) (B := B) (fr := fr) (σ := σ) (m := m) (vals := vals) (K := K) (by simpa using k2) k3 c1 c2 c3 c4 c5 (fun j o v hj ho hv => ?_) (fun r a w hi hf hd hx => ?_) ops.size _ r a _ (by simp) ?_ (fun j i hj => ?_) (fun j _ => ?_) ⟨hf1.size, fun j d v _ hj => ?_, fun t _ => hf1.get t, hf1.defs⟩ hi1 hd (hx.trans hx1)
  · exact k5 j o v hj ho hv
  · rw [k4] at hk
    exact hk r a w hi hf hd hx
  · unfold unl; simp [List.countP_replicate]
  · exact absurd hj nl
  · exact nl
  · exact absurd hj nl
def newOp (o : Op) : Bool := match o with
  | .buildSlice .. => true
  | .convert .. => true
  | o => chgOp o
def noF : List Nat → Bool
  | [] => false
  | n :: _ => Nat.beq n 1000000
def forceM {α : Type} (M : List Nat) (σ : Heap) (c : Heap → α) : α := match noF M with
  | true => c σ
  | false => forceL σ c
theorem forceM_eq {α : Type} (M : List Nat) (σ : Heap) (c : Heap → α) : forceM M σ c = c σ := by unfold forceM; split <;> simp [forceL_eq]
def forceIfM {α : Type} (M : List Nat) (b : Bool) (σ : Heap) (c : Heap → α) : α := match b with
  | true => forceM M σ c
  | false => c σ
theorem forceIfM_eq {α : Type} (M : List Nat) (b : Bool) (σ : Heap) (c : Heap → α) : forceIfM M b σ c = c σ := by cases b <;> simp [forceIfM, forceM_eq]
structure Rp where
  C : List Prop
  todo : List AI
  fr : Fr
  σ : Heap
  hs : List Ht
def revL {α β : Type} : List α → List α → (List α → β) → β
  | [], a, c => c a
  | x :: r, a, c => revL r (x :: a) c
theorem revL_eq {α β : Type} : ∀ (l a : List α) (c : List α → β), revL l a c = c (l.reverse ++ a)
  | [], a, c => rfl
  | x :: r, a, c => by rw [revL, revL_eq r]; simp
def halt (C : List Prop) (k : List AI) (fr : Fr) (σ : Heap) (hs : List Ht) : Rp := revL C [] fun C => ⟨C, k, fr, σ, hs⟩
theorem halt_eq (C : List Prop) (k : List AI) (fr : Fr) (σ : Heap) (hs : List Ht) : halt C k fr σ hs = ⟨C.reverse, k, fr, σ, hs⟩ := by rw [halt, revL_eq, List.append_nil]
def gdSlot (all : Array Oper) (o : Oper) (fr : Fr) : Option (Nat × Bool) :=
  match o.guard with
  | some (j, _) => match all[j]? with
    | some oj => match oj.dst with
      | some d => match fr.get d with
        | .bool b => some (d, b)
        | _ => none
      | none => none
    | none => none
  | none => none
def runP (cx : Cx) (M : List Nat) (n : Nat) : Nat → List Prop → List Ht → List AI → Fr → Heap → Rp
  | 0, C, hs, k, fr, σ => halt C k fr σ hs
  | f + 1, C, hs, k, fr, σ =>
    match k with
    | [] => halt C [] fr σ hs
    | .code c :: k => match c with
      | .skip => runP cx M n f C hs k fr σ
      | .label _ => runP cx M n f C hs k fr σ
      | .seq a b => runP cx M n f C hs (.code a :: .code b :: k) fr σ
      | .block id c => runP cx M n f C hs (.code c :: .blk id :: k) fr σ
      | .region id ops draw => match draw with
        | false => runP cx M n f C hs (.ops ops ops.toList [] :: k) fr σ
        | true => match hs with
          | .d jc m K g rs :: hs' => match Nat.ble m ops.size with
            | true => match Nat.blt jc m with
              | true => match drawOk ops.toList m with
                | true => forceM M (g σ) fun σ1 => match normC (runC cx K n ops ops.toList σ σ1 jc (ops.toList.take m) 0 fr rs) with
                  | some (D, vals, fr') => forceL fr' fun fr' => pushAll D ((cx.P.follows .mixedOrders = true) :: C) fun C => runP cx M n f C hs' (.ops ops (ops.toList.drop m) [] :: k) fr' σ1
                  | none => halt C (.code (.region id ops true) :: k) fr σ hs
                | false => halt C (.code (.region id ops true) :: k) fr σ hs
              | false => halt C (.code (.region id ops true) :: k) fr σ hs
            | false => halt C (.code (.region id ops true) :: k) fr σ hs
          | hs => runHK cx (guardKs ops.toList ops.toList) n ops ops.toList σ ops.toList 0 fr hs fun D vals fr' m hs' => match drawOk ops.toList m with
          | true => pushAll D ((cx.P.follows .mixedOrders = true) :: C) fun C => runP cx M n f C hs' (.ops ops (ops.toList.drop m) [] :: k) fr' σ
          | false => halt C (.code (.region id ops true) :: k) fr σ hs
      | .exit id => match popTo id k with
        | some k' => runP cx M n f C hs k' fr σ
        | none => halt C (.code (.exit id) :: k) fr σ hs
      | .cond c x y => match hs with
        | .b t :: hs' => match ev cx fr c with
          | .bool b => match t with
            | true => runP cx M n f ((b = true) :: C) hs' (.code x :: k) fr σ
            | false => runP cx M n f ((b = false) :: C) hs' (.code y :: k) fr σ
          | _ => halt C (.code (.cond c x y) :: k) fr σ hs
        | _ => halt C (.code (.cond c x y) :: k) fr σ hs
      | c => halt C (.code c :: k) fr σ hs
    | .blk _ :: k => runP cx M n f C hs k fr σ
    | .inv I :: k => halt C (.inv I :: k) fr σ hs
    | .ops all l K :: k => match l with
      | [] => runP cx M n f C hs k fr σ
      | o :: r => match stopH hs with
       | true => halt C (.ops all (o :: r) K :: k) fr σ hs
       | false => match dstOk n o.dst with
        | false => halt C (.ops all (o :: r) K :: k) fr σ hs
        | true => match guardA all o K fr with
          | none => match hs with
            | .b t :: hs' => match gdSlot all o fr with
              | some (d, b) => runP cx M n f ((b = t) :: C) hs' (.ops all (o :: r) (d :: K) :: k) ((d, .bool t) :: fr) σ
              | none => halt C (.ops all (o :: r) K :: k) fr σ hs
            | _ => halt C (.ops all (o :: r) K :: k) fr σ hs
          | some false => setC o.dst (.tup []) fr fun fr => runP cx M n f C hs (.ops all r K :: k) fr σ
          | some true => match outH hs with
           | some (x, g, hs') => forceM M (g σ) fun σ' => runP cx M n f ((OpSpec cx n fr σ o x (g σ)) :: C) hs' (.ops all r K :: k) (setA o.dst x fr) σ'
           | none => match callA cx fr o.op with
            | some (g, args) => match hs with
              | .v x :: hs' => setC o.dst x fr fun fr => runP cx M n f ((∃ args', Calc cx g args' x ∧ Frzs σ args args') :: C) hs' (.ops all r K :: k) fr σ
              | .k x :: hs' => setC o.dst x fr fun fr => runP cx M n f (CallOk cx g args σ (fun e s => e = .ret x ∧ s = σ) :: C) hs' (.ops all r K :: k) fr σ
              | .f x g' :: hs' => setC o.dst x fr fun fr => forceM M (g' σ) fun σ' => runP cx M n f (CallOk cx g args σ (fun e s => e = .ret x ∧ s = g' σ) :: C) hs' (.ops all r K :: k) fr σ'
              | .c x σ' :: hs' => setC o.dst x fr fun fr => runP cx M n f (CallOk cx g args σ (fun e s => e = .ret x ∧ s = σ') :: C) hs' (.ops all r K :: k) fr σ'
              | _ => halt C (.ops all (o :: r) K :: k) fr σ hs
            | none => match stopOp o.op with
              | false => match aOp cx M o.dst o.op fr σ with
                | some (D, v, σ') => pushAll D C fun C => forceV v fun v => forceIfM M (newOp o.op) σ' fun σ' => setC o.dst v fr fun fr => runP cx M n f C hs (.ops all r K :: k) fr σ'
                | none => match storeA cx fr σ o.op with
                  | some (D, σ') => pushAll D C fun C => forceM M σ' fun σ' => setC o.dst (.tup []) fr fun fr => runP cx M n f C hs (.ops all r K :: k) fr σ'
                  | none => match hs with
                    | .v x :: hs' => match loadA cx fr σ o.op x with
                      | some D => pushAll D C fun C => setC o.dst x fr fun fr => runP cx M n f C hs' (.ops all r K :: k) fr σ
                      | none => runP cx M n f ((OpSpec cx n fr σ o x σ) :: C) hs' (.ops all r K :: k) (setA o.dst x fr) σ
                    | .f x g :: hs' => forceM M (g σ) fun σ' => runP cx M n f ((OpSpec cx n fr σ o x (g σ)) :: C) hs' (.ops all r K :: k) (setA o.dst x fr) σ'
                    | _ => halt C (.ops all (o :: r) K :: k) fr σ hs
              | true => match hs with
                | .v x :: hs' => match idxA cx fr σ o.op x with
                  | some (D, v) => pushAll D C fun C => forceV v fun v => setC o.dst v fr fun fr => runP cx M n f C hs' (.ops all r K :: k) fr σ
                  | none => runP cx M n f ((OpSpec cx n fr σ o x σ) :: C) hs' (.ops all r K :: k) (setA o.dst x fr) σ
                | .f x g :: hs' => forceM M (g σ) fun σ' => runP cx M n f ((OpSpec cx n fr σ o x (g σ)) :: C) hs' (.ops all r K :: k) (setA o.dst x fr) σ'
                | _ => halt C (.ops all (o :: r) K :: k) fr σ hs
theorem gdSlot_some {all : Array Oper} {o : Oper} {fr : Fr} {d : Nat} {b : Bool} (h : gdSlot all o fr = some (d, b)) : ∃ j want oj, o.guard = some (j, want) ∧ all[j]? = some oj ∧ oj.dst = some d ∧ fr.get d = .bool b := by
  unfold gdSlot at h
  split at h
  · rename_i j want hg
    split at h
    · rename_i oj hj
      split at h
      · rename_i d' hd
        split at h
        · rename_i b' hb
          simp only [Option.some.injEq, Prod.mk.injEq] at h
          obtain ⟨rfl, rfl⟩ := h
          exact ⟨j, want, oj, hg, hj, hd, hb⟩
        · cases h
      · cases h
    · cases h
  · cases h
def Goes (cx : Cx) (n : Nat) (B : Bs) (Q : Post) (C : List Prop) (k : List AI) (fr : Fr) (σ : Heap) (R : Rp) : Prop := AllP R.C → AllP C ∧ (S cx n B R.todo Q R.fr R.σ → S cx n B k Q fr σ)
theorem AllP_of_rev {C : List Prop} (h : AllP C.reverse) : AllP C := (AllP_rev (C := []) (by simpa using h)).1
theorem Goes.here {C : List Prop} {hs : List Ht} : Goes cx n B Q C k fr σ (halt C k fr σ hs) := by
  rw [halt_eq]
  exact fun h => ⟨AllP_of_rev h, id⟩
theorem Goes.one {C : List Prop} {D : List Prop} {k k' : List AI} {fr fr' : Fr} {σ σ' : Heap} {R : Rp} (h : Goes cx n B Q (D.reverse ++ C) k' fr' σ' R) (hs : AllP D → S cx n B k' Q fr' σ' → S cx n B k Q fr σ) : Goes cx n B Q C k fr σ R := fun hC => by
  obtain ⟨h1, h2⟩ := h hC
  obtain ⟨h3, h4⟩ := AllP_rev h1
  exact ⟨h4, fun q => hs h3 (h2 q)⟩
theorem runP_sound {M : List Nat} : ∀ (f : Nat) (C : List Prop) (hs : List Ht) (k : List AI) (fr : Fr) (σ : Heap), Goes cx n B Q C k fr σ (runP cx M n f C hs k fr σ) := by
  intro f
  induction f with
  | zero => intro C hs k fr σ; exact .here
  | succ f ih =>
    intro C hs k fr σ
    unfold runP
    split
    · exact .here
    · rename_i c k'
      split
      · exact (ih _ _ _ _ _).one (D := []) fun _ => S_skip
      · exact (ih _ _ _ _ _).one (D := []) fun _ => S_label
      · exact (ih _ _ _ _ _).one (D := []) fun _ => S_seq
      · exact (ih _ _ _ _ _).one (D := []) fun _ => S_block
      · rename_i id ops draw
        split
        · exact (ih _ _ _ _ _).one (D := []) fun _ => S_region
        split
        · rename_i jc m K g rs hs'
          split
          case h_2 => exact .here
          rename_i hmN
          split
          case h_2 => exact .here
          rename_i hjc
          split
          case h_2 => exact .here
          rename_i hchk
          rw [forceM_eq]
          split
          case h_2 => exact .here
          rename_i D vals fr' hrun
          rw [forceL_eq, pushAll_eq]
          refine Goes.one (D := (cx.P.follows .mixedOrders = true) :: D) (fr' := fr') (σ' := g σ) (k' := .ops ops (ops.toList.drop m) [] :: k') (by rw [List.reverse_cons, List.append_assoc]; exact ih _ _ _ _ _) fun hD hk => ?_
          exact S_drawCN (g σ) jc m K rs hD.1 hchk hmN hjc hrun hD.2 hk
        · rw [runHK_eq]
          generalize hrun : runH cx (guardKs ops.toList ops.toList) n ops ops.toList σ ops.toList 0 fr hs = H
          obtain ⟨D, vals, fr', m, hs'⟩ := H
          simp only
          split
          · rename_i hchk
            rw [pushAll_eq]
            refine Goes.one (D := (cx.P.follows .mixedOrders = true) :: D) (fr' := fr') (σ' := σ) (k' := .ops ops (ops.toList.drop m) [] :: k') (by rw [List.reverse_cons, List.append_assoc]; exact ih _ _ _ _ _) fun hD hk => ?_
            exact S_drawH (guardKs ops.toList ops.toList) _ hs hD.1 hrun hchk hD.2 hk
          · exact .here
      · split
        · rename_i id k'' hp
          exact (ih _ _ _ _ _).one (D := []) fun _ => S_exit hp
        · exact .here
      · rename_i c x y
        split
        · rename_i t hs'
          split
          · rename_i b hb
            split
            · exact (ih _ _ _ _ _).one (D := [b = true]) fun hD hk => S_cond hb (fun _ => hk) (fun h => by rw [hD.1] at h; cases h)
            · exact (ih _ _ _ _ _).one (D := [b = false]) fun hD hk => S_cond hb (fun h => by rw [hD.1] at h; cases h) (fun _ => hk)
          · exact .here
        · exact .here
      · exact .here
    · exact (ih _ _ _ _ _).one (D := []) fun _ => S_blk
    · exact .here
    · rename_i all l K k'
      split
      · exact (ih _ _ _ _ _).one (D := []) fun _ => S_ops_nil
      · rename_i o r
        split
        · exact .here
        rename_i hst
        clear hst
        split
        · exact .here
        · rename_i hd
          split
          · rename_i hg
            split
            · rename_i t hs'
              split
              · rename_i d b hgd
                obtain ⟨j, want, oj, e1, e2, e3, e4⟩ := gdSlot_some hgd
                refine (ih _ _ _ _ _).one (D := [b = t]) fun hD hk => ?_
                obtain rfl : b = t := hD.1
                exact S_guard e1 e2 e3 e4 (fun h => by subst h; exact hk) (fun h => by subst h; exact hk)
              · exact .here
            · exact .here
          · rename_i hg
            rw [setC_eq]
            exact (ih _ _ _ _ _).one (D := []) fun _ => S_op_skip hg hd
          · rename_i hg
            split
            · rename_i x g hs' _
              rw [forceM_eq]
              exact (ih _ _ _ _ _).one (D := [OpSpec cx n fr σ o x (g σ)]) fun hD hk => S_do hg hd hD.1 hk
            rename_i hout
            clear hout
            split
            · rename_i g args hc
              split
              · rename_i x hs'
                rw [setC_eq]
                refine (ih _ _ _ _ _).one (D := [∃ args', Calc cx g args' x ∧ Frzs σ args args']) fun hD hk => ?_
                obtain ⟨⟨args', h1, h2⟩, _⟩ := hD
                exact S_pure hc hg hd h1 h2 hk
              · rename_i x hs'
                rw [setC_eq]
                refine (ih _ _ _ _ _).one (D := [CallOk cx g args σ (fun e s => e = .ret x ∧ s = σ)]) fun hD hk => ?_
                exact S_call hg hc hd hD.1 (fun v s h => by obtain ⟨h1, rfl⟩ := h; obtain rfl := Out.ret.inj h1; exact hk) (fun v s h => by cases h.1)
              · rename_i x g' hs'
                rw [setC_eq, forceM_eq]
                refine (ih _ _ _ _ _).one (D := [CallOk cx g args σ (fun e s => e = .ret x ∧ s = g' σ)]) fun hD hk => ?_
                exact S_call hg hc hd hD.1 (fun v s h => by obtain ⟨h1, rfl⟩ := h; obtain rfl := Out.ret.inj h1; exact hk) (fun v s h => by cases h.1)
              · rename_i x σ' hs'
                rw [setC_eq]
                refine (ih _ _ _ _ _).one (D := [CallOk cx g args σ (fun e s => e = .ret x ∧ s = σ')]) fun hD hk => ?_
                exact S_call hg hc hd hD.1 (fun v s h => by obtain ⟨h1, rfl⟩ := h; obtain rfl := Out.ret.inj h1; exact hk) (fun v s h => by cases h.1)
              · exact .here
            · split
              · split
                · rename_i D v σ' ha
                  rw [pushAll_eq]
                  simp only [forceV_eq, forceIfM_eq, setC_eq]
                  exact (ih _ _ _ _ _).one (D := D) fun hD hk => S_op hg ha hD hd hk
                · split
                  · rename_i D σ' ha
                    rw [pushAll_eq]
                    simp only [forceM_eq, setC_eq]
                    exact (ih _ _ _ _ _).one (D := D) fun hD hk => S_store ha hg hd hD hk
                  · split
                    · rename_i x hs'
                      split
                      · rename_i D ha
                        rw [pushAll_eq]
                        simp only [setC_eq]
                        exact (ih _ _ _ _ _).one (D := D) fun hD hk => S_load x ha hg hd hD hk
                      · exact (ih _ _ _ _ _).one (D := [OpSpec cx n fr σ o x σ]) fun hD hk => S_do hg hd hD.1 hk
                    · rename_i x g hs'
                      rw [forceM_eq]
                      exact (ih _ _ _ _ _).one (D := [OpSpec cx n fr σ o x (g σ)]) fun hD hk => S_do hg hd hD.1 hk
                    · exact .here
              · split
                · rename_i x hs'
                  split
                  · rename_i D v ha
                    rw [pushAll_eq]
                    simp only [forceV_eq, setC_eq]
                    exact (ih _ _ _ _ _).one (D := D) fun hD hk => S_index x ha hg hd hD hk
                  · exact (ih _ _ _ _ _).one (D := [OpSpec cx n fr σ o x σ]) fun hD hk => S_do hg hd hD.1 hk
                · rename_i x g hs'
                  rw [forceM_eq]
                  exact (ih _ _ _ _ _).one (D := [OpSpec cx n fr σ o x (g σ)]) fun hD hk => S_do hg hd hD.1 hk
                · exact .here
theorem pago (M : List Nat) {k k' : List AI} {fr fr' : Fr} {σ σ' : Heap} {C : List Prop} (hs : List Ht) {hs' : List Ht} (h : runP cx M n 2000 [] hs k fr σ = ⟨C, k', fr', σ', hs'⟩) (hC : AllP C)
    (hk : S cx n B k' Q fr' σ') : S cx n B k Q fr σ := by
  have hg := runP_sound (M := M) (cx := cx) (n := n) (B := B) (Q := Q) 2000 [] hs k fr σ
  rw [h] at hg
  exact (hg hC).2 hk
theorem pa {k k' : List AI} {fr fr' : Fr} {σ σ' : Heap} {C : List Prop} (hs : List Ht) {hs' : List Ht} (h : runP cx [] n 2000 [] hs k fr σ = ⟨C, k', fr', σ', hs'⟩) (hC : AllP C)
    (hk : S cx n B k' Q fr' σ') : S cx n B k Q fr σ := pago [] hs h hC hk
theorem pas {k k' : List AI} {fr fr' : Fr} {σ σ' : Heap} {C : List Prop} (hs : List Ht) {hs' : List Ht} (h : runP cx [1000000] n 2000 [] hs k fr σ = ⟨C, k', fr', σ', hs'⟩) (hC : AllP C)
    (hk : S cx n B k' Q fr' σ') : S cx n B k Q fr σ := pago [1000000] hs h hC hk
theorem pB {k k' : List AI} {fr fr' : Fr} {σ σ' : Heap} {C : List Prop} (hs : List Ht) {hs' : List Ht} (h : runP cx [] n 2000 [] hs k fr σ = ⟨C, k', fr', σ', hs'⟩) (hk : S cx n B k' Q fr' σ') (hC : AllP C := by (repeat' with_reducible apply AllP_cons) <;> exact aC) : S cx n B k Q fr σ := pago [] hs h hC hk
theorem S_share {c : Code} {k' : List AI} (F : Fr) (σ' : Heap) (hm : (∀ fr, Weak fr F → S cx n B (.code c :: k') Q fr σ') → S cx n B k Q fr σ) (hk : S cx n B (.code c :: k') Q F σ') : S cx n B k Q fr σ := hm fun fr hw => S_code_weak hw hk
theorem S_cut {todo : List AI} {id cur : Nat} {cs : List AV} {ty : Option TypeId} (m : Nat) (h : σ[id]? = some (cur, some (.cells cs ⟨false, ty⟩))) (hT : ∃ c k, todo = .code c :: k ∨ ∃ all l K, todo = .ops all l K :: k)
    (hk : S cx n B todo Q fr (σ.set id (cur, some (.cells (cs.take m) ⟨false, ty⟩)))) : S cx n B todo Q fr σ := by
  have key : ∀ r w, Inv cx r σ w → Inv cx r (σ.set id (cur, some (.cells (cs.take m) ⟨false, ty⟩))) w ∧ Ext r σ w r (σ.set id (cur, some (.cells (cs.take m) ⟨false, ty⟩))) w := by
    intro r w hi
    refine hi.recast h (fun b o hb => ?_) (fun ro hro => by cases hro; exact ⟨_, by rw [List.take_nil]⟩)
    obtain ⟨c, t, lo, hi, h1, h2, h3, h4, h5⟩ := hb
    refine ⟨c, t, lo, hi, h1, fun i hil => ?_, fun x hx => h3 x (List.mem_of_mem_take hx), fun i a b c => (by cases (h4 i a b c).1), h5⟩
    have hil' : i < cs.length := by rw [List.length_take] at hil; omega
    obtain ⟨v, k1, k2⟩ := h2 i hil'
    exact ⟨v, k1, by rw [List.getElem_take]; exact k2⟩
  obtain ⟨c, k, hT⟩ := hT
  rcases hT with rfl | ⟨all, l, K, rfl⟩
  · intro r a w hi hf hd hx
    obtain ⟨q1, q2⟩ := key r w hi
    exact hk r a w q1 (hf.mono (q2.grow hi)) hd (hx.trans q2)
  · intro r a w hi hf hd hx
    obtain ⟨q1, q2⟩ := key r w hi
    exact hk r a w q1 (hf.mono (q2.grow hi)) hd (hx.trans q2)
end
end Go.Ab
end
section
set_option linter.unusedVariables false
set_option linter.unusedSimpArgs false
namespace Go.Ab
open Go
theorem putAll_pre {σ τ es : Heap} {n : Nat} (hn : σ.length = n) (he : es.length = n) : putAll (σ ++ τ) (List.range n) es = es ++ τ := by
  have hl : (putAll (σ ++ τ) (List.range n) es).length = (es ++ τ).length := by
    rw [putAll_length _ _ _ (by simp; omega)]; simp; omega
  refine List.ext_getElem? fun i => ?_
  rcases Nat.lt_or_ge i n with h | h
  · rw [putAll_at (List.range n) es (σ ++ τ) i i List.nodup_range (fun j hj => by rw [List.mem_range] at hj; simp; omega) (by simp; omega) (by rw [List.getElem?_append_left (by simpa using h)]; simp [h]), List.getElem?_append_left (by omega)]
  · rcases Nat.lt_or_ge i (σ ++ τ).length with h2 | h2
    · rw [putAll_other _ _ _ i h2 (by simp; omega), List.getElem?_append_right (by omega), List.getElem?_append_right (by omega), hn, he]
    · rw [List.getElem?_eq_none (by rw [hl]; simp at h2 ⊢; omega), List.getElem?_eq_none (by simp at h2 ⊢; omega)]
def RnO (ids : List Nat) : Out → Prop
  | .ret v => Rn ids v v
  | .panic v => Rn ids v v
theorem CallOk.pre {cx : Cx} {f : FuncId} {args : List AV} {σ : Heap} {R : Out → Heap → Prop} (n : Nat) (τ : Heap) (h : CallOk cx f args σ R) (hn : σ.length = n) (ha : Rns (List.range n) args args) (hs : RnH (List.range n) σ σ)
    (hR : ∀ o s, R o s → s.length = n ∧ RnH (List.range n) s s ∧ RnO (List.range n) o) : CallOk cx f args (σ ++ τ) (fun o s => ∃ s0, s = s0 ++ τ ∧ R o s0) := by
  have hp : Part (List.range n) σ (σ ++ τ) := by
    refine ⟨List.nodup_range, fun j hj => by rw [List.mem_range] at hj; simp; omega, by simp [hn], fun i j e hi he => ?_⟩
    have hil : i < σ.length := by
      rcases Nat.lt_or_ge i σ.length with h' | h'
      · exact h'
      · rw [List.getElem?_eq_none h'] at he; cases he
    have : j = i := by
      rw [List.getElem?_range (by omega)] at hi; exact (Option.some.inj hi).symm
    subst this
    refine ⟨e, by rw [List.getElem?_append_left hil]; exact he, ?_⟩
    have h1 := hs.2 j hil hil
    rw [List.getElem?_eq_getElem hil] at he
    rw [Option.some.inj he] at h1; exact h1
  refine ⟨h.1, fun r w vs hi hv => ?_⟩
  have hsub := frame_down hi hp
  have hvs : VRels (r.sub (List.range n)) w vs args := by
    refine ⟨hv.1, fun i hi' => ?_⟩
    refine (ha.2 i hi' hi').down (r := r) (r' := r.sub (List.range n)) (fun _ h => h) (fun _ h => h) hi.SI (fun i j ver p h1 h2 => ?_) (hv.2 i hi')
    simp only [Rl.sub, h1]; exact h2
  refine (h.2 _ w vs hsub hvs).mono fun e w' ⟨out, σ1, r1, hRo, ho, hi1, hx1⟩ => ?_
  obtain ⟨k1, k2, k3⟩ := hR _ _ hRo
  have hids : List.range n = List.range n ++ newIds (σ ++ τ).length (σ1.length - (List.range n).length) := by
    rw [List.length_range, k1, Nat.sub_self]; simp [newIds]
  obtain ⟨q1, q2, q3⟩ := frame_up hi hp hi1 hx1 hids k2
  rw [putAll_pre hn k1] at q1 q2
  cases e <;> cases out <;> first | exact ho.elim | skip
  · exact ⟨_, _, _, ⟨σ1, rfl, hRo⟩, q3 _ _ _ k3 ho, q1, q2⟩
  · obtain ⟨u, hu1, hu2⟩ := ho
    exact ⟨_, _, _, ⟨σ1, rfl, hRo⟩, ⟨u, hu1, q3 _ _ _ k3 hu2⟩, q1, q2⟩
theorem CallOk.pre1 {cx : Cx} {f : FuncId} {args : List AV} {σ σ' : Heap} {x : AV} (n : Nat) (τ : Heap) (h : CallOk cx f args σ (fun e s => e = .ret x ∧ s = σ')) (hn : σ.length = n) (hn' : σ'.length = n) (ha : Rns (List.range n) args args) (hs : RnH (List.range n) σ σ)
    (hs' : RnH (List.range n) σ' σ') (hx : Rn (List.range n) x x) : CallOk cx f args (σ ++ τ) (fun e s => e = .ret x ∧ s = σ' ++ τ) :=
  (h.pre n τ hn ha hs (fun o s h => by obtain ⟨rfl, rfl⟩ := h; exact ⟨hn', hs', hx⟩)).mono fun o s ⟨s0, h1, h2, h3⟩ => ⟨h2, by rw [h1, h3]⟩
theorem putAll_mid {τ σ τ' es : Heap} {k n : Nat} (hk : τ.length = k) (hn : σ.length = n) (he : es.length = n) : putAll (τ ++ (σ ++ τ')) (List.range' k n) es = τ ++ (es ++ τ') := by
  have hl : (putAll (τ ++ (σ ++ τ')) (List.range' k n) es).length = (τ ++ (es ++ τ')).length := by
    rw [putAll_length _ _ _ (by simp; omega)]; simp; omega
  refine List.ext_getElem? fun i => ?_
  by_cases hm : k ≤ i ∧ i < k + n
  · obtain ⟨h1, h2⟩ := hm
    have e1 : (List.range' k n ++ newIds (τ ++ (σ ++ τ')).length (es.length - (List.range' k n).length))[i - k]? = some i := by
      rw [List.getElem?_append_left (by simp; omega), List.getElem?_range' (by omega)]
      congr 1; omega
    rw [putAll_at (List.range' k n) es (τ ++ (σ ++ τ')) (i - k) i List.nodup_range' (fun j hj => by rw [List.mem_range'_1] at hj; simp; omega) (by simp; omega) e1, List.getElem?_append_right (by omega), hk, List.getElem?_append_left (by omega)]
  · rcases Nat.lt_or_ge i (τ ++ (σ ++ τ')).length with h2 | h2
    · rw [putAll_other _ _ _ i h2 (by rw [List.mem_range'_1]; omega)]
      rcases Nat.lt_or_ge i k with h3 | h3
      · rw [List.getElem?_append_left (by omega), List.getElem?_append_left (by omega)]
      · rw [List.getElem?_append_right (by omega), List.getElem?_append_right (by omega), List.getElem?_append_right (by omega), List.getElem?_append_right (by omega), hn, he]
    · rw [List.getElem?_eq_none (by rw [hl]; simp at h2 ⊢; omega), List.getElem?_eq_none (by simp at h2 ⊢; omega)]
theorem CallOk.mid {cx : Cx} {f : FuncId} {args args' : List AV} {σ σ' σ2 σ2' : Heap} {x x' : AV} (k n : Nat) (τ τ' : Heap) (h : CallOk cx f args σ (fun e s => e = .ret x ∧ s = σ')) (hk : τ.length = k) (hn : σ.length = n) (hn' : σ'.length = n)
    (ha : Rns (List.range' k n) args args') (hs : RnH (List.range' k n) σ σ2) (hs' : RnH (List.range' k n) σ' σ2') (hx : Rn (List.range' k n) x x') : CallOk cx f args' (τ ++ (σ2 ++ τ')) (fun e s => e = .ret x' ∧ s = τ ++ (σ2' ++ τ')) := by
  have hn2 : σ2.length = n := hs.1.symm.trans hn
  have hn2' : σ2'.length = n := hs'.1.symm.trans hn'
  have hp : Part (List.range' k n) σ (τ ++ (σ2 ++ τ')) := by
    refine ⟨List.nodup_range', fun j hj => by rw [List.mem_range'_1] at hj; simp; omega, by simp [hn], fun i j e hi he => ?_⟩
    have hil : i < σ.length := by
      rcases Nat.lt_or_ge i σ.length with h' | h'
      · exact h'
      · rw [List.getElem?_eq_none h'] at he; cases he
    have : j = k + i := by
      rw [List.getElem?_range' (by omega)] at hi; have := Option.some.inj hi; omega
    subst this
    have hil2 : i < σ2.length := by omega
    refine ⟨σ2[i], by rw [List.getElem?_append_right (by omega), List.getElem?_append_left (by omega), hk, Nat.add_sub_cancel_left, List.getElem?_eq_getElem hil2], ?_⟩
    have h1 := hs.2 i hil hil2
    rw [List.getElem?_eq_getElem hil] at he
    rw [Option.some.inj he] at h1; exact h1
  refine ⟨h.1, fun r w vs hi hv => ?_⟩
  have hsub := frame_down hi hp
  have hvs : VRels (r.sub (List.range' k n)) w vs args := by
    refine ⟨hv.1.trans ha.1.symm, fun i hi' => ?_⟩
    refine (ha.2 i hi' (by rw [← ha.1]; exact hi')).down (r := r) (r' := r.sub (List.range' k n)) (fun _ h => h) (fun _ h => h) hi.SI (fun i j ver p h1 h2 => ?_) (hv.2 i (by rw [← ha.1]; exact hi'))
    simp only [Rl.sub, h1]; exact h2
  refine (h.2 _ w vs hsub hvs).mono fun e w' ⟨out, σ1, r1, hRo, ho, hi1, hx1⟩ => ?_
  obtain ⟨rfl, rfl⟩ := hRo
  have hids : List.range' k n = List.range' k n ++ newIds (τ ++ (σ2 ++ τ')).length (σ2'.length - (List.range' k n).length) := by
    rw [List.length_range', hn2', Nat.sub_self]; simp [newIds]
  obtain ⟨q1, q2, q3⟩ := frame_up hi hp hi1 hx1 hids hs'
  rw [putAll_mid hk hn2 hn2'] at q1 q2
  cases e with
  | returned u => exact ⟨.ret x', _, _, ⟨rfl, rfl⟩, q3 _ _ _ hx ho, q1, q2⟩
  | panicked chain => exact ho.elim
  | outgrown => exact ho.elim
end Go.Ab
end
section
set_option linter.unusedVariables false
set_option linter.unusedSimpArgs false
namespace Go.Ab
open Go
def mapF (ks : List (List UInt8)) (val : List UInt8 → AV) : List (AV × AV) := ks.map fun k => (.str k, val k)
def addK (l : List (List UInt8)) (s : List UInt8) : List (List UInt8) := if s ∈ l then l else l ++ [s]
def updF (val : List UInt8 → AV) (t : List UInt8) (v : AV) : List UInt8 → AV := fun k => if k = t then v else val k
def hitF (ks : List (List UInt8)) (val : List UInt8 → AV) (t : List UInt8) : Option (Nat × AV) := if t ∈ ks then some (ks.idxOf t, val t) else none
theorem findF (val : List UInt8 → AV) (t : List UInt8) : ∀ (ks : List (List UInt8)) (i : Nat), findK (.str t) (mapF ks val) i = some (if t ∈ ks then some (i + ks.idxOf t, val t) else none)
  | [], i => rfl
  | k :: ks, i => by
    show (match sameK (.str t) (.str k) with
      | some true => some (some (i, val k))
      | some false => findK (.str t) (mapF ks val) (i + 1)
      | none => none) = _
    show (match some (t == k) with
      | some true => some (some (i, val k))
      | some false => findK (.str t) (mapF ks val) (i + 1)
      | none => none) = _
    by_cases h : t = k
    · subst h
      rw [beq_self_eq_true]
      simp [List.idxOf_cons_self]
    · have h1 : (t == k) = false := by simpa using h
      rw [h1]
      show findK (.str t) (mapF ks val) (i + 1) = _
      rw [findF val t ks (i + 1)]
      by_cases hm : t ∈ ks
      · rw [if_pos hm, if_pos (List.mem_cons_of_mem _ hm), List.idxOf_cons, show (k == t) = false by simpa using Ne.symm h]
        show some (some (i + 1 + ks.idxOf t, val t)) = some (some (i + (ks.idxOf t + 1), val t))
        rw [show i + 1 + ks.idxOf t = i + (ks.idxOf t + 1) by omega]
      · rw [if_neg hm, if_neg (by simp [h, hm])]
theorem findF0 (ks : List (List UInt8)) (val : List UInt8 → AV) (t : List UInt8) : findK (.str t) (mapF ks val) 0 = some (hitF ks val t) := by
  rw [findF]; unfold hitF; rw [Nat.zero_add]
theorem updF_const (v : AV) (t : List UInt8) : updF (fun _ => v) t v = fun _ => v := by
  funext k; unfold updF; split <;> rfl
theorem setF {ks : List (List UInt8)} (hn : ks.Nodup) (val : List UInt8 → AV) (t : List UInt8) (v : AV) : setK (mapF ks val) (.str t) v (hitF ks val t) = mapF (addK ks t) (updF val t v) := by
  unfold hitF addK
  by_cases hm : t ∈ ks
  · rw [if_pos hm, if_pos hm]
    show (mapF ks val).set (ks.idxOf t) (.str t, v) = _
    have hlt : ks.idxOf t < ks.length := List.idxOf_lt_length_of_mem hm
    have hat : ks[ks.idxOf t] = t := List.getElem_idxOf hlt
    unfold mapF
    apply List.ext_getElem
    · simp
    · intro i h1 h2
      have hi : i < ks.length := by simpa using h1
      rw [List.getElem_set, List.getElem_map, List.getElem_map]
      by_cases hi2 : ks.idxOf t = i
      · subst hi2
        rw [if_pos rfl, hat]; unfold updF; rw [if_pos rfl]
      · rw [if_neg hi2]
        unfold updF
        rw [if_neg]
        intro e
        exact hi2 ((List.getElem_inj hn).1 (hat.trans e.symm))
  · rw [if_neg hm, if_neg hm]
    show mapF ks val ++ [(.str t, v)] = _
    unfold mapF
    rw [List.map_append]
    congr 1
    · exact List.map_congr_left fun k hk => by unfold updF; rw [if_neg (fun e : k = t => hm (e ▸ hk))]
    · simp [updF]
def mapBx (ks : List (List UInt8)) (val : List UInt8 → AV) : Option Box := some (.map (mapF ks val) none)
section
variable {cx : Cx} {n : Nat} {B : Bs} {k : List AI} {Q : Post} {fr : Fr} {σ : Heap}
theorem pan (f : Nat) {k k' : List AI} {fr fr' : Fr} {σ σ' : Heap} {C : List Prop} (hs : List Ht) {hs' : List Ht} (h : runP cx [] n f [] hs k fr σ = ⟨C, k', fr', σ', hs'⟩) (hC : AllP C)
    (hk : S cx n B k' Q fr' σ') : S cx n B k Q fr σ := by
  have hg := runP_sound (M := []) (cx := cx) (n := n) (B := B) (Q := Q) f [] hs k fr σ
  rw [h] at hg
  exact (hg hC).2 hk
theorem OpSpec.mget {o : Oper} {t kt et : TypeId} {m key : Operand} {ok : Bool} {id ver : Nat} {ks : List (List UInt8)} {val : List UInt8 → AV} {z : AV} {s : List UInt8} (ho : o.op = .lookup t m key ok) (ht : cx.P.underlying t = some (.map kt et)) (hk : keyFits cx.P kt (.str s) = true)
    (hm : ev cx fr m = .map id ver) (hkey : ev cx fr key = .str s) (hσ : σ[id]? = some (ver, mapBx ks val)) (hz : zeroV cx.P et = some z) {v : AV} (hv : okV ok (if s ∈ ks then val s else z) (decide (s ∈ ks)) = v) :
    OpSpec cx n fr σ o v σ := by
  subst hv
  have hf := findF0 ks val s
  by_cases h : s ∈ ks
  · have hh : hitF ks val s = some (ks.idxOf s, val s) := if_pos h
    refine OpSpec.map (hitF ks val s) (C := [ver = ver, findK (ev cx fr key) (mapF ks val) 0 = some (hitF ks val s)]) ?_ ⟨rfl, by rw [hkey]; exact hf, trivial⟩
    rw [ho, mapA, ht, hkey]
    simp only [hk, hm, hσ, mapBx, hh]
    rw [if_pos h, decide_eq_true h]
  · have hh : hitF ks val s = none := if_neg h
    refine OpSpec.map (hitF ks val s) (C := [ver = ver, findK (ev cx fr key) (mapF ks val) 0 = some (hitF ks val s)]) ?_ ⟨rfl, by rw [hkey]; exact hf, trivial⟩
    rw [ho, mapA, ht, hkey]
    simp only [hk, hm, hσ, mapBx, hh, hz]
    rw [if_neg h, decide_eq_false h]
theorem OpSpec.mput {o : Oper} {t kt et : TypeId} {m key x : Operand} {id ver : Nat} {ks : List (List UInt8)} {val : List UInt8 → AV} {s : List UInt8} {v : AV} (ho : o.op = .mapUpdate t m key x) (ht : cx.P.underlying t = some (.map kt et)) (hk : keyFits cx.P kt (.str s) = true)
    (hm : ev cx fr m = .map id ver) (hkey : ev cx fr key = .str s) (hx : ev cx fr x = v) (hσ : σ[id]? = some (ver, mapBx ks val)) (hn : ks.Nodup) {σ' : Heap} (hσ' : σ.set id (ver, mapBx (addK ks s) (updF val s v)) = σ') :
    OpSpec cx n fr σ o (.tup []) σ' := by
  subst hσ'
  have hf := findF0 ks val s
  refine OpSpec.map (hitF ks val s) (C := [ver = ver, findK (ev cx fr key) (mapF ks val) 0 = some (hitF ks val s)]) ?_ ⟨rfl, by rw [hkey]; exact hf, trivial⟩
  rw [ho, mapA, ht, hkey, hx]
  simp only [hk, hm, hσ, mapBx, setF hn]
  have hb : setB none (hitF ks val s) = none := by cases hitF ks val s <;> rfl
  rw [hb]
end
theorem Calc.weak {cx : Cx} {f : FuncId} {args : List AV} {res res' : AV} (h : Calc cx f args res) (hf : Free true res') (hw : ∀ r w v, VRel r w v res → VRel r w v res') : Calc cx f args res' := by
  refine ⟨hf, h.call.1, fun r w vs hi hv => (h.call.2 r w vs hi hv).mono fun e w' ⟨out, σ', r', ⟨ho, hσ⟩, hor, hi', hx'⟩ => ?_⟩
  subst ho
  cases e with
  | returned u => exact ⟨.ret res', σ', r', ⟨rfl, hσ⟩, hw _ _ _ hor, hi', hx'⟩
  | panicked chain => exact hor.elim
  | outgrown => exact hor.elim
end Go.Ab
end
section
set_option linter.unusedVariables false
set_option linter.unusedSimpArgs false
namespace Go.Ab
open Go
def MethP (P : Program) (T : TypeId) (name : String) (f : FuncId) : Prop := ∀ v w, (method (P.types.size + Made.depth) T v name).run P w = .ok (f, v) w
def MethL (P : Program) (T : TypeId) (name : String) (f : FuncId) (el : TypeId) : Prop := ∀ a w, (method (P.types.size + Made.depth) T (.pointer (some a)) name).run P w = ((loadVar el a).run P w).andThen fun x w' => .ok (f, x) w'
theorem methL_of {P : Program} {t el : TypeId} {name : String} {f : FuncId} {i : TypeInfo} {m : Go.Method} (hi : P.info? t = some i) (hf : i.methods.find? (·.name == name) = some m) (hp : m.path.toList = []) (hfu : m.func = some (f, false)) (hu : P.underlying t = some (.pointer el)) : MethL P t name f el := by
  intro a w
  have h1 : (typeInfo t).run P w = .ok i w := by simp [typeInfo, hi]
  show (method ((P.types.size + 99) + 1) t (.pointer (some a)) name).run P w = _
  unfold method
  simp only [Sem.run_bind, h1, Result.andThen_ok, hf, hp, follow, Sem.run_pure, hfu, receiverAt, run_underlying hu, Place.get]
  have hw : ∀ s1 s2 : String, Builtin.ssaWrapNilChk_ #[t] t #[.pointer (some a), strVal s1, strVal s2] = pure (.pointer (some a)) := fun _ _ => rfl
  split
  · rw [hw]; simp only [pure_bind, asAddr]
  · simp only [pure_bind, asAddr]
inductive Recv (cx : Cx) (σ : Heap) (T : TypeId) (name : String) (f : FuncId) : AV → AV → Prop
  | val {v} (h : MethP cx.P T name f) : Recv cx σ T name f v v
  | load {id ver off : Nat} {cs : List AV} {g : Tag} {el : TypeId} {x : AV} (h : MethL cx.P T name f el) (hb : boxAt σ id = some (ver, cs, g)) (hl : aLoad cx.P el (cs.drop off) = some x) : Recv cx σ T name f (.ptr id ver off) x
theorem Recv.run {cx : Cx} {r : Rl} {σ : Heap} {w : World} {T : TypeId} {name : String} {f : FuncId} {v x : AV} {z : Value} (hi : Inv cx r σ w) (h : Recv cx σ T name f v x) (hz : VRel r w z v) :
    ∃ u, (method (cx.P.types.size + Made.depth) T z name).run cx.P w = .ok (f, u) w ∧ VRel r w u x := by
  cases h with
  | val h => exact ⟨z, h z w, hz⟩
  | load h hb hl =>
    cases hz with
    | ptr hρ =>
      rename_i b' o _ _ _
      obtain ⟨v', h1, h2⟩ := aLoad_run (P := cx.P) ((hi.cells hb rfl hρ).cells'.drop _) hl
      exact ⟨v', by rw [h]; rw [h1]; rfl, h2⟩
section
variable {cx : Cx} {n : Nat} {B : Bs} {k : List AI} {Q : Post} {fr : Fr} {σ : Heap}
theorem S_invoke {all : Array Oper} {o : Oper} {l : List Oper} {K : List Nat} {recv : Operand} {name : String} {az : Array Operand} {ts : Array TypeId} {T : TypeId} {v x : AV} {f : FuncId} {args : List AV} {R : Out → Heap → Prop}
    (ho : o.op = .call { callee := .invoke recv name, args := az, argTypes := ts }) (hrv : ev cx fr recv = .iface T v) (hm : Recv cx σ T name f v x) (hargs : x :: az.toList.map (ev cx fr) = args)
    (hcall : CallOk cx f args σ R) (hg : guardA all o K fr = some true) (hd : dstOk n o.dst = true)
    (hr : ∀ v σ', R (.ret v) σ' → S cx n B (.ops all l K :: k) Q (setA o.dst v fr) σ') (hp : ∀ v σ', R (.panic v) σ' → Q (.panic v) fr σ') : S cx n B (.ops all (o :: l) K :: k) Q fr σ := by
  subst hargs
  intro r a w hi hf hdf hx
  have hw := guardA_wanted (cx := cx) hf hg
  have hev : ∀ x, VRel r w (a.eval x) (ev cx fr x) := fun x => ev_rel hi hf x
  have h1 : ∃ vs, (execOp a.eval o).run cx.P w = .ok (.enter f vs) w ∧ VRels r w vs (x :: az.toList.map (ev cx fr)) := by
    obtain ⟨dst, op, ty, pos, aft, guard⟩ := o
    simp only at ho
    subst ho
    have hz := hev recv
    rw [hrv] at hz
    generalize hzz : a.eval recv = z at hz
    cases hz with
    | iface hv =>
      rename_i z0
      obtain ⟨u, m1, m2⟩ := hm.run hi hv
      refine ⟨#[u] ++ az.map a.eval, ?_, by simp; omega, fun i hil => ?_⟩
      · simp only [execOp, resolve, Sem.run_bind, Sem.run_pure, Result.andThen_ok, invoke, hzz]
        have e1 : (#[Value.iface T z0] ++ az.map a.eval)[0]? = some (Value.iface T z0) := by
          rw [Array.getElem?_append_left (by simp)]; rfl
        rw [e1]
        have e2 : (#[Value.iface T z0] ++ az.map a.eval).extract 1 (#[Value.iface T z0] ++ az.map a.eval).size = az.map a.eval := by
          apply Array.ext'
          rw [Array.toList_extract, Array.toList_append]
          simp only [List.extract, List.drop, Array.size_append, Array.size_map, List.size_toArray, List.length_cons, List.length_nil, List.cons_append, List.nil_append, Array.toList_map]
          exact List.take_of_length_le (by simp)
        rw [e2]
        simp only [callMethod, Sem.run_bind]
        rw [show (program : Sem Program).run cx.P w = .ok cx.P w from rfl]
        simp only [Result.andThen_ok]
        rw [m1]
        simp only [Result.andThen_ok]
        exact hcall.1 _ _
      · cases i with
        | zero =>
          have : (#[u] ++ az.map a.eval).getD 0 undef = u := by
            rw [Array.getD_eq_getD_getElem?, Array.getElem?_append_left (by simp)]; rfl
          rw [this]; exact m2
        | succ i =>
          have hi2 : i < az.size := by simpa using hil
          have : (#[u] ++ az.map a.eval).getD (i + 1) undef = a.eval az[i] := by
            simp only [Array.getD_eq_getD_getElem?]
            rw [Array.getElem?_append_right (by simp)]
            simp [hi2]
          rw [this]
          simpa using hev _
  obtain ⟨vs, h1, h2⟩ := h1
  unfold wpList
  rw [if_pos hw]
  refine .inl ?_
  unfold Oper.wp
  rw [h1, Oper.upon_enter]
  refine (hcall.2 r w vs hi h2).mono fun e w' ⟨out, σ', r', hR, ho, hi', hx'⟩ => ?_
  have hg' := hx'.grow hi
  cases e <;> cases out <;> first | exact ho.elim | skip
  · exact hr _ σ' hR r' _ w' hi' ((hf.mono hg').setA hd ho) (hdf.put _ _) (hx.trans hx')
  · refine Lift.mk (ae := .panic _) ?_ ho hi' (hf.mono hg') hdf (hx.trans hx')
    rw [after_panic]
    exact hp _ σ' hR
theorem S_invoke1 {all : Array Oper} {o : Oper} {l : List Oper} {K : List Nat} {recv : Operand} {name : String} {az : Array Operand} {ts : Array TypeId} {T : TypeId} {v x y : AV} {f : FuncId} {args : List AV} {σ' : Heap}
    (ho : o.op = .call { callee := .invoke recv name, args := az, argTypes := ts }) (hrv : ev cx fr recv = .iface T v) (hm : Recv cx σ T name f v x) (hargs : x :: az.toList.map (ev cx fr) = args)
    (hcall : CallOk cx f args σ (fun e s => e = .ret y ∧ s = σ')) (hg : guardA all o K fr = some true) (hd : dstOk n o.dst = true)
    (hr : S cx n B (.ops all l K :: k) Q (setA o.dst y fr) σ') : S cx n B (.ops all (o :: l) K :: k) Q fr σ :=
  S_invoke ho hrv hm hargs hcall hg hd (fun v s ⟨h1, h2⟩ => by cases h1; subst h2; exact hr) (fun v s ⟨h1, _⟩ => by cases h1)
theorem OpSpec.store {o : Oper} {C : List Prop} {σ' : Heap} (h : storeA cx fr σ o.op = some (C, σ')) (hC : AllP C) : OpSpec cx n fr σ o (.tup []) σ' := by
  intro r a w hi hf
  have he : ∀ x, VRel r w (a.eval x) (ev cx fr x) := fun x => ev_rel hi hf x
  obtain ⟨dst, op, ty, pos, aft, guard⟩ := o
  simp only at h
  unfold storeA at h
  split at h
  case h_2 => cases h
  rename_i t s x
  have hs := he s
  have hx := he x
  split at h
  case h_2 => cases h
  rename_i m hm
  split at h
  case h_3 => cases h
  all_goals
    rename_i id ver off hse
    rw [hse] at hs
    split at h
    case h_2 => cases h
    rename_i cur cs hσ
    simp only [Option.some.injEq, Prod.mk.injEq] at h; obtain ⟨rfl, rfl⟩ := h
    obtain ⟨h1, h2, h3, h4, _⟩ := hC
    unfold execOp
    try simp only
    generalize hz : a.eval s = z at hs
    cases hs
    rename_i b o' hρ
    obtain ⟨w', r', k1, k2, k3⟩ := store_main hi hm hσ h3 h4 h1 (allOne_mem h2) hx hρ
    refine ⟨r', w', undef, .inr ⟨?_, rfl⟩, .tup rfl (fun i h => absurd h (by simp)), k2, k3⟩
    simp [Instr.storeAt, Instr.sureAddr, k1]
end
end Go.Ab
end
section
set_option linter.unusedVariables false
set_option linter.unusedSimpArgs false
namespace Go.Ab
open Go
theorem CallOk.frame {cx : Cx} {f : FuncId} {args args' : List AV} {σ σs σs' es : Heap} {x x' : AV} (ids : List Nat) (h : CallOk cx f args σs (fun e s => e = .ret x ∧ s = σs')) (ha : Rns ids args args') (hp : Part ids σs σ)
    (hes : RnH (ids ++ newIds σ.length (es.length - ids.length)) σs' es) (hx : Rn (ids ++ newIds σ.length (es.length - ids.length)) x x') : CallOk cx f args' σ (fun e s => e = .ret x' ∧ s = putAll σ ids es) := by
  refine ⟨h.1, fun r w vs hi hv => ?_⟩
  have hsub := frame_down hi hp
  have hvs : VRels (r.sub ids) w vs args := by
    refine ⟨hv.1.trans ha.1.symm, fun i hi' => ?_⟩
    refine (ha.2 i hi' (by rw [← ha.1]; exact hi')).down (r := r) (r' := r.sub ids) (fun _ h => h) (fun _ h => h) hi.SI (fun i j ver p h1 h2 => ?_) (hv.2 i (by rw [← ha.1]; exact hi'))
    simp only [Rl.sub, h1]; exact h2
  refine (h.2 _ w vs hsub hvs).mono fun e w' ⟨out, σ1, r1, hRo, ho, hi1, hx1⟩ => ?_
  obtain ⟨rfl, rfl⟩ := hRo
  obtain ⟨q1, q2, q3⟩ := frame_up hi hp hi1 hx1 rfl hes
  cases e with
  | returned u => exact ⟨.ret x', _, _, ⟨rfl, rfl⟩, q3 _ _ _ hx ho, q1, q2⟩
  | panicked chain => exact ho.elim
  | outgrown => exact ho.elim
theorem CallOk.topR {cx : Cx} {f : FuncId} {args : List AV} {σ : Heap} {R : Out → Heap → Prop} {σ' : Heap} (h : CallOk cx f args σ R) (hR : ∀ o s, R o s → (∃ v, o = .ret v) ∧ s = σ') : CallOk cx f args σ (fun e s => e = .ret .top ∧ s = σ') := by
  refine ⟨h.1, fun r w vs hi hv => (h.2 r w vs hi hv).mono fun e w' ⟨o, s, r', ho, hor, hi', hx'⟩ => ?_⟩
  obtain ⟨⟨v, rfl⟩, rfl⟩ := hR o s ho
  cases e with
  | returned u => exact ⟨.ret .top, s, r', ⟨rfl, rfl⟩, .top, hi', hx'⟩
  | panicked chain => exact hor.elim
  | outgrown => exact hor.elim
theorem CallOk.fresh {cx : Cx} {f : FuncId} {args : List AV} {σs es : Heap} {x x' : AV} (σ : Heap) (h : CallOk cx f args [] (fun e s => e = .ret x ∧ s = σs)) (ha : ∀ a ∈ args, Free false a) (hes : RnH (newIds σ.length es.length) σs es) (hx : Rn (newIds σ.length es.length) x x') :
    CallOk cx f args σ (fun e s => e = .ret x' ∧ s = σ ++ es) := by
  have := CallOk.frame (σ := σ) (es := es) [] h (Rns.free ha) ⟨List.nodup_nil, (fun j hj => by cases hj), rfl, (fun i j e hi => by simp at hi)⟩ (by simpa using hes) (x' := x') (by simpa using hx)
  simpa only [putAll] using this
end Go.Ab
end
section
set_option linter.unusedVariables false
set_option linter.unusedSimpArgs false
namespace Go.Ab
open Go
structure KeyLaw {α : Type} [DecidableEq α] (cx : Cx) (kt : TypeId) (key : α → AV) : Prop where
  check : ∀ (e : Bool) (r : Rl) (w : World) (v : Value) (a : α), VRel r w v (key a) → (Instr.checkKey e 10000 kt v).run cx.P w = .ok () w
  equal : ∀ (r : Rl) (w : World) (u v : Value) (a b : α), VRel r w u (key a) → VRel r w v (key b) → (Op.equal kt u v).run cx.P w = .ok (decide (a = b)) w
  bits : ∀ (r : Rl) (w : World) (u v : Value) (a : α), VRel r w u (key a) → VRel r w v (key a) → Instr.sameBits 10000 u v = true
  slow : ∃ d, cx.P.underlying kt = some d ∧ ∀ k e l i, Instr.findNow d k (e :: l) i = none
def fieldsFit (P : Program) : List Field → List AV → Bool
  | [], _ => true
  | f :: fs, xs => match aLoad P f.type (xs.drop f.offset) with
    | some y => keyFits P f.type y && fieldsFit P fs xs
    | none => false
theorem checkKey_one {P : Program} {w : World} {k : TypeId} {key : Value} {r : Rl} {a : AV} (e : Bool) (d : Nat) (h : keyFits P k a = true) (ha : VRel r w key a) : (Instr.checkKey e (d + 1) k key).run P w = .ok () w := by
  obtain ⟨q, hu, hd⟩ := keyFits_spec h
  unfold Instr.checkKey
  rcases hd with ⟨rfl, s, rfl⟩ | ⟨j, rfl, n, m, rfl⟩ | ⟨rfl, x, rfl⟩ <;> cases ha <;> simp [run_underlying hu]
theorem checkKey_struct {P : Program} {w : World} {k : TypeId} {v : Value} {r : Rl} {az : List AV} {fs : Array Field} (e : Bool) (hu : P.underlying k = some (.struct fs)) (hf : fieldsFit P fs.toList az = true) (ha : VRel r w v (.agg az)) : (Instr.checkKey e 10000 k v).run P w = .ok () w := by
  have hva : ∃ xs, v = .agg xs := by cases ha; exact ⟨_, rfl⟩
  obtain ⟨xs, rfl⟩ := hva
  show (Instr.checkKey e (9998 + 1 + 1) k (.agg xs)).run P w = _
  rw [Instr.checkKey]
  simp only [Sem.run_bind, run_underlying hu, Result.andThen_ok]
  rw [← Array.forIn_toList]
  generalize fs.toList = L at hf
  induction L with
  | nil => simp
  | cons f L ih =>
    rw [fieldsFit] at hf
    split at hf
    case h_2 => cases hf
    rename_i y hy
    rw [Bool.and_eq_true] at hf
    obtain ⟨z, p1, p2⟩ := part_run ha hy
    have p3 := checkKey_one e 9998 hf.1 p2
    by_cases hn : f.name = "_"
    · simp only [List.forIn_cons, Sem.run_bind, hn, ne_eq, not_true_eq_false, if_false, Result.andThen_ok, Sem.run_pure]
      exact ih hf.2
    · simp only [List.forIn_cons, Sem.run_bind, hn, ne_eq, not_false_eq_true, if_true, Result.andThen_ok, p1, p3, Sem.run_pure]
      exact ih hf.2
theorem equal_struct {P : Program} {w : World} {t : TypeId} {u v : Value} {r : Rl} {az bs : List AV} {fs : Array Field} {b : Bool} (ht : P.underlying t = some (.struct fs)) (hc : cmpOk P t = true) (hb : eqFs P fs.toList az bs = some b) (hx : VRel r w u (.agg az)) (hy : VRel r w v (.agg bs)) :
    (Op.equal t u v).run P w = .ok b w := by
  have hxa : ∃ xs, u = .agg xs := by cases hx; exact ⟨_, rfl⟩
  have hya : ∃ xs, v = .agg xs := by cases hy; exact ⟨_, rfl⟩
  obtain ⟨xs, rfl⟩ := hxa
  obtain ⟨ys, rfl⟩ := hya
  have hfo : P.fieldsOf t = fs := by simp [Program.fieldsOf, ht]
  unfold cmpOk at hc
  rw [ht] at hc
  simp only [Bool.and_eq_true, Bool.not_eq_true', List.all_eq_true, bne_iff_ne] at hc
  show (Op.equalIn (9998 + 1 + 1) t _ _).run P w = _
  rw [run_equalIn_struct w (9998 + 1) t xs ys (by rw [hfo]; exact ht) hc.1.1, hfo]
  exact eqFs_run 9998 hx hy fs.toList hb hc.2
def plainA : AV → Bool
  | .str _ => true
  | .int _ _ => true
  | .bool _ => true
  | _ => false
theorem bits_one {r : Rl} {w : World} {u v : Value} {a : AV} (d : Nat) (h : plainA a = true) (hu : VRel r w u a) (hv : VRel r w v a) : Instr.sameBits d u v = true := by
  cases a <;> first | cases h | skip
  · cases hu; cases hv; unfold Instr.sameBits; simp
  · cases hu; cases hv; unfold Instr.sameBits; simp
  · cases hu with
    | str h1 =>
      cases hv with
      | str h2 =>
        unfold Instr.sameBits
        exact (MapKept.bytes_beq _ _).2 (ByteArray.ext (Array.toList_inj.1 (h1.trans h2.symm)))
theorem bits_struct {r : Rl} {w : World} {u v : Value} {az : List AV} (h : az.all plainA = true) (hu : VRel r w u (.agg az)) (hv : VRel r w v (.agg az)) : Instr.sameBits 10000 u v = true := by
  cases hu with
  | agg hn h1 =>
    cases hv with
    | agg hm h2 =>
      rename_i xs ys
      unfold Instr.sameBits
      rw [Bool.and_eq_true]
      refine ⟨by simp [hn, hm], ?_⟩
      rw [List.all_eq_true]
      rintro ⟨x, y⟩ hxy
      obtain ⟨i, hi, e⟩ := List.getElem_of_mem hxy
      rw [List.length_zip, Array.length_toList, Array.length_toList] at hi
      rw [List.getElem_zip] at e
      have hia : i < az.length := by omega
      have k1 := h1 i hia
      have k2 := h2 i hia
      have e1 : xs.getD i undef = x := by
        rw [Array.getD_eq_getD_getElem?, Array.getElem?_eq_getElem (by omega)]
        exact (congrArg Prod.fst e)
      have e2 : ys.getD i undef = y := by
        rw [Array.getD_eq_getD_getElem?, Array.getElem?_eq_getElem (by omega)]
        exact (congrArg Prod.snd e)
      rw [e1] at k1; rw [e2] at k2
      exact bits_one _ (List.all_eq_true.1 h _ (List.getElem_mem hia)) k1 k2
theorem KeyLaw.struct {α : Type} [DecidableEq α] {cx : Cx} {kt : TypeId} {fs : Array Field} {parts : α → List AV} (hu : cx.P.underlying kt = some (.struct fs)) (hc : cmpOk cx.P kt = true) (hf : ∀ a, fieldsFit cx.P fs.toList (parts a) = true) (hp : ∀ a, (parts a).all plainA = true)
    (he : ∀ a b, eqFs cx.P fs.toList (parts a) (parts b) = some (decide (a = b))) : KeyLaw cx kt (fun a => .agg (parts a)) where
  check := fun e r w v a h => checkKey_struct e hu (hf a) h
  equal := fun r w u v a b h1 h2 => equal_struct hu hc (he a b) h1 h2
  bits := fun r w u v a h1 h2 => bits_struct (hp a) h1 h2
  slow := ⟨_, hu, fun k e l i => rfl⟩
section
variable {α : Type} [DecidableEq α]
def mapG (key : α → AV) (ks : List α) (val : α → AV) : List (AV × AV) := ks.map fun k => (key k, val k)
theorem KeyLaw.find {cx : Cx} {kt : TypeId} {key : α → AV} (L : KeyLaw cx kt key) {r : Rl} {w : World} {a : α} {k : Value} (hk : VRel r w k (key a)) : ∀ (es : List MapEntry) (ks : List α) (i : Nat), es.length = ks.length → (∀ j (h : j < ks.length), ∃ e, es[j]? = some e ∧ VRel r w e.key (key ks[j])) →
    (a ∉ ks ∧ (Instr.findAsking kt k es i).run cx.P w = .ok none w) ∨ (a ∈ ks ∧ ∃ e, es[ks.idxOf a]? = some e ∧ (Instr.findAsking kt k es i).run cx.P w = .ok (some (i + ks.idxOf a, e.val)) w)
  | [], [], i, _, _ => .inl ⟨by simp, by simp [Instr.findAsking]⟩
  | [], _ :: _, _, hl, _ => by simp at hl
  | _ :: _, [], _, hl, _ => by simp at hl
  | e :: es, x :: ks, i, hl, hr => by
    obtain ⟨e0, q1, q2⟩ := hr 0 (by simp)
    simp only [List.getElem?_cons_zero, Option.some.injEq, List.getElem_cons_zero] at q1 q2
    subst q1
    have heq := L.equal r w k e.key a x hk q2
    by_cases hax : a = x
    · subst hax
      refine .inr ⟨by simp, e, by simp, ?_⟩
      rw [decide_eq_true rfl] at heq
      rw [Instr.findAsking]
      simp only [Sem.run_bind, heq, Result.andThen_ok, if_true, Sem.run_pure, List.idxOf_cons_self, Nat.add_zero]
    · rw [decide_eq_false hax] at heq
      have hf : (Instr.findAsking kt k (e :: es) i).run cx.P w = (Instr.findAsking kt k es (i + 1)).run cx.P w := by
        conv => lhs; rw [Instr.findAsking]
        simp [heq]
      have hx : (x == a) = false := by simpa using Ne.symm hax
      rcases KeyLaw.find L hk es ks (i + 1) (by simpa using hl) (fun j hj => by
        obtain ⟨e', m1, m2⟩ := hr (j + 1) (by simp; omega)
        exact ⟨e', by simpa using m1, by simpa using m2⟩) with ⟨h1, h2⟩ | ⟨h1, e', h2, h3⟩
      · exact .inl ⟨by simp [hax, h1], by rw [hf]; exact h2⟩
      · refine .inr ⟨List.mem_cons_of_mem _ h1, e', ?_, ?_⟩
        · rw [List.idxOf_cons, hx]; simpa using h2
        · rw [hf, h3, List.idxOf_cons, hx]
          simp only [cond_false]
          rw [show i + 1 + ks.idxOf a = i + (ks.idxOf a + 1) by omega]
theorem KeyLaw.findKey {cx : Cx} {kt : TypeId} {key : α → AV} (L : KeyLaw cx kt key) {r : Rl} {w : World} {a : α} {k : Value} (hk : VRel r w k (key a)) {es : Array MapEntry} {clock : Nat} {ks : List α} {val : α → AV} {st : Option (List Nat × Nat)} (hm : MapIs r w es clock (mapG key ks val) st) :
    (a ∉ ks ∧ (Instr.findKey kt k es.toList).run cx.P w = .ok none w) ∨ (a ∈ ks ∧ ∃ e, es[ks.idxOf a]? = some e ∧ VRel r w e.val (val a) ∧ VRel r w e.key (key a) ∧ (Instr.findKey kt k es.toList).run cx.P w = .ok (some (ks.idxOf a, e.val)) w) := by
  have hlen : (mapG key ks val).length = ks.length := by simp [mapG]
  have hat : ∀ j (h : j < ks.length), ∃ e, es[j]? = some e ∧ VRel r w e.key (key ks[j]) ∧ VRel r w e.val (val ks[j]) := by
    intro j hj
    obtain ⟨e, h1, h2, h3⟩ := hm.2.1 j (by omega)
    refine ⟨e, h1, ?_, ?_⟩
    · simpa [mapG] using h2
    · simpa [mapG] using h3
  obtain ⟨d, hd, hs⟩ := L.slow
  have h := L.find hk es.toList ks 0 (by rw [Array.length_toList, hm.1, hlen]) (fun j hj => by
    obtain ⟨e, h1, h2, _⟩ := hat j hj
    exact ⟨e, by rw [Array.getElem?_toList]; exact h1, h2⟩)
  have hfk : (Instr.findKey kt k es.toList).run cx.P w = (Instr.findAsking kt k es.toList 0).run cx.P w := by
    unfold Instr.findKey
    cases hes : es.toList with
    | nil => simp [run_underlying hd, Instr.findNow, Instr.findAsking]
    | cons e l => simp [run_underlying hd, hs]
  rw [hfk]
  rcases h with h | ⟨h1, e, h2, h3⟩
  · exact .inl h
  · refine .inr ⟨h1, e, by rw [← Array.getElem?_toList]; exact h2, ?_, ?_, by rw [h3, Nat.zero_add]⟩
    · obtain ⟨e', m1, m2, m3⟩ := hat _ (List.idxOf_lt_length_of_mem h1)
      rw [Array.getElem?_toList, m1] at h2
      obtain rfl := Option.some.inj h2
      rw [List.getElem_idxOf] at m3; exact m3
    · obtain ⟨e', m1, m2, m3⟩ := hat _ (List.idxOf_lt_length_of_mem h1)
      rw [Array.getElem?_toList, m1] at h2
      obtain rfl := Option.some.inj h2
      rw [List.getElem_idxOf] at m2; exact m2
variable {cx : Cx} {n : Nat} {fr : Fr} {σ : Heap}
theorem OpSpec.entryG {o : Oper} {x : Operand} {id ver mid mver since c i b : Nat} {seen bs : List Nat} {kvs : List (AV × AV)} {p q : AV} (ho : o.op = .entry x) (hx0 : ev cx fr x = .ptr id ver 0) (hσ : σ[id]? = some (ver, some (.miter mid mver since (seen ++ [b]) c)))
    (hσm : σ[mid]? = some (mver, some (.map kvs (some (bs, c))))) (hb : bs[i]? = some b) (hk : kvs[i]? = some (p, q)) : OpSpec cx n fr σ o (.tup [p, q]) σ := by
  have hik : i < kvs.length := by
    rcases Nat.lt_or_ge i kvs.length with h | h
    · exact h
    · rw [List.getElem?_eq_none h] at hk; cases hk
  have h := OpSpec.entry (n := n) ho hx0 hσ hσm hb hik
  rw [List.getElem?_eq_getElem hik] at hk
  rw [Option.some.inj hk] at h
  exact h
end
end Go.Ab
end
section
set_option linter.unusedVariables false
set_option linter.unusedSimpArgs false
namespace Go.Ab
open Go
section
variable {cx : Cx} {n : Nat} {B : Bs} {k : List AI} {Q : Post} {fr : Fr} {σ : Heap}
theorem wpAny_frontG {σ' : Heap} {hp : Array Bool → Heap} {ops : Array Oper} {m : Nat} {vals : List AV} {K : List Nat} {Q' : Exit → Act → World → Prop} (hmN : m ≤ ops.size) (hlen : vals.length = m)
    (hread : ∀ j o t, j < m → ops.toList[j]? = some o → t ∈ slotsOf ops.toList o → readOk ops.toList m j t = true)
    (huniq : ∀ i j d, i < m → j < m → dstOf ops.toList i = some d → dstOf ops.toList j = some d → i = j)
    (hch : ∀ j, m < j → j < ops.size → edge ops.toList j (j - 1) = true) (hlo : ∀ j i, edge ops.toList j i = true → i < j)
    (hcl : m < ops.size → ∀ i, i < m → ∃ k, i < k ∧ k ≤ m ∧ edge ops.toList k i = true)
    (hin : ∀ listed : Array Bool, (∀ j, j < m → Listed listed j) → hp listed = σ') (hdst : ∀ (j : Nat) (o : Oper), j < m → ops.toList[j]? = some o → dstOk n o.dst = true)
    (hstep : ∀ (j : Nat) o v, j < m → ops.toList[j]? = some o → vals[j]? = some v → ∀ listed : Array Bool, listed.size = ops.size → ¬ Listed listed j → (∀ i, edge ops.toList j i = true → Listed listed i) → Down ops.toList listed → StepX cx n ops (hp listed) (hp (listed.setIfInBounds j true)) K (restr ops.toList o (ovl (ops.toList.take j) (vals.take j) fr)) o v)
    (hend : ∀ r a w, Inv cx r σ' w → FRel r w n (ovl (ops.toList.take m) vals fr) a → Dfs B a → Ext B.r B.σ B.w r σ' w → wpList cx.P ops Q' (ops.toList.drop m) a w) :
    ∀ (f : Nat) (listed : Array Bool) (r : Rl) (a : Act) (w : World), listed.size = ops.size → unl listed = f → Down ops.toList listed → (∀ j, m ≤ j → ¬ Listed listed j) →
      FL r w n fr ops.toList m vals listed a → Inv cx r (hp listed) w → Dfs B a → Ext B.r B.σ B.w r (hp listed) w → wpAny cx.P .any ops Q' f listed a w := by
  have ovlN : ∀ i, i ≤ m → ∀ vs, (ovl (ops.toList.take i) (vals.take i) fr).get n = .mark vs → fr.get n = .mark vs := by
    intro i him vs hm
    rcases ovl_get (ops.toList.take i) (vals.take i) fr n (by simp [hlen]; omega) with ⟨i', o', v', k1, k2, k3, k4⟩ | ⟨k1, k2⟩
    · exfalso
      have hi'i : i' < i := by
        rcases Nat.lt_or_ge i' i with h' | h'
        · exact h'
        · rw [List.getElem?_eq_none (by simp; omega)] at k1; cases k1
      rw [List.getElem?_take_of_lt hi'i] at k1 k3
      have hds : dstOk n o'.dst = true := hdst i' o' (by omega) k1
      rw [k2] at hds
      have := blt_lt hds
      omega
    · rw [← k2]; exact hm
  have fin : ∀ (f : Nat) (listed : Array Bool) (r : Rl) (a : Act) (w : World), listed.size = ops.size → unl listed = f → (∀ j, j < m → Listed listed j) → (∀ j, m ≤ j → ¬ Listed listed j) →
      FL r w n fr ops.toList m vals listed a → Inv cx r (hp listed) w → Dfs B a → Ext B.r B.σ B.w r (hp listed) w → wpAny cx.P .any ops Q' f listed a w := by
    intro f listed r a w hs hf hall hno hfl hi hd hx
    rw [hin _ hall] at hi hx
    have hcount : unl listed + m = ops.size := by
      have hl : listed.toList = List.replicate m true ++ List.replicate (ops.size - m) false := by
        apply List.ext_getElem
        · simp; omega
        · intro j h1 h2
          have hj : j < listed.size := by simpa using h1
          have h3 : listed.getD j false = listed.toList[j] := by simp [Array.getD_eq_getD_getElem?, hj]
          by_cases hjm : j < m
          · rw [List.getElem_append_left (by simpa using hjm), List.getElem_replicate, ← h3]; exact hall j hjm
          · rw [List.getElem_append_right (by simp; omega), List.getElem_replicate, ← h3]
            have := hno j (by omega)
            unfold Listed at this
            simpa using this
      unfold unl
      rw [hl, List.countP_append, List.countP_replicate, List.countP_replicate]
      simp; omega
    refine wpAny_tail hch hlo f m listed a w (by omega) (Nat.le_refl m) hs (fun i hi' => ⟨fun h => ?_, fun h => hall i h⟩) (hend r a w hi ⟨hfl.size, fun t => ?_, fun vs hm => ?_⟩ hd hx)
    case refine_3 =>
      refine hfl.defs vs (ovlN m (Nat.le_refl _) vs ?_)
      rw [show vals.take m = vals from List.take_of_length_le (by omega)]
      exact hm
    · rcases Nat.lt_or_ge i m with h' | h'
      · exact h'
      · exact absurd h (hno i h')
    · rcases ovl_get (ops.toList.take m) vals fr t (by simp [hlen]; omega) with ⟨i, o, v, h1, h2, h3, h4⟩ | ⟨h1, h2⟩
      · rw [h4]
        have him : i < m := by
          rcases Nat.lt_or_ge i m with h' | h'
          · exact h'
          · rw [List.getElem?_eq_none (by simp; omega)] at h1; cases h1
        rw [List.getElem?_take_of_lt him] at h1
        exact hfl.done i t v him (hall i him) (by simp [dstOf, h1, h2]) h3
      · rw [h2]
        refine hfl.rest t (fun j hj _ hdj => ?_)
        obtain ⟨o, ho, hod⟩ := Option.bind_eq_some_iff.1 hdj
        exact h1 j o (by rw [List.getElem?_take_of_lt hj]; exact ho) hod
  intro f
  induction f with
  | zero =>
    intro listed r a w hs hf hdn hno hfl hi hd hx
    refine fin 0 listed r a w hs hf (fun j hj => ?_) hno hfl hi hd hx
    rcases hb : listed.getD j false with _ | _
    · have := unl_set (by omega) hb
      omega
    · exact hb
  | succ f ih =>
    intro listed r a w hs hf hdn hno hfl hi hd hx
    by_cases hall : ∀ j, j < m → Listed listed j
    · exact fin (f + 1) listed r a w hs hf hall hno hfl hi hd hx
    have hex : ∃ j, j < m ∧ ¬ Listed listed j := by
      apply Classical.byContradiction
      intro h
      exact hall (fun j hj => Classical.byContradiction fun hl => h ⟨j, hj, hl⟩)
    refine ⟨fun h0 => ?_, fun i hir => ?_⟩
    · obtain ⟨j, h1, h2, h3⟩ := exists_least m hex
      have hjr : j ∈ Region.ready .any ops listed := by
        refine mem_ready.2 ⟨?_, ops[j]'(by omega), Array.getElem?_eq_getElem _, fun e he hb => ?_⟩
        · rw [listed_true (by omega)]; simpa [Listed] using h2
        · have h4 : e.on < j := hlo j e.on (edge_iff.2 ⟨ops[j]'(by omega), Array.getElem?_eq_getElem _, e, he, hb, rfl⟩)
          exact Classical.byContradiction fun h5 => h3 e.on h4 h5
      rw [h0] at hjr; cases hjr
    · obtain ⟨h0, o, ho, hedges⟩ := mem_ready.1 hir
      have hilt := (Array.getElem?_eq_some_iff.1 ho).1
      rw [listed_true (by omega)] at h0
      have hed : ∀ j, edge ops.toList i j = true → Listed listed j := by
        intro j hj
        obtain ⟨o', ho', e, he, hb, hon⟩ := edge_iff.1 hj
        rw [ho] at ho'; cases ho'
        rw [← hon]; exact hedges e he hb
      have him : i < m := by
        rcases Nat.lt_or_ge i m with h' | h'
        · exact h'
        · exfalso
          rcases Nat.eq_or_lt_of_le h' with h'' | h''
          · subst h''
            refine hall (fun j hj => ?_)
            have key : ∀ d j, d + j = m → j < m → Listed listed j := by
              intro d
              induction d using Nat.strongRecOn with
              | _ d ihd =>
                intro j hdj hj
                obtain ⟨k, h1, h2, h3⟩ := hcl hilt j hj
                rcases Nat.eq_or_lt_of_le h2 with h4 | h4
                · subst h4; exact hed j h3
                · exact hdn k j (ihd (m - k) (by omega) k (by omega) h4) h3
            exact key (m - j) j (by omega) hj
          · exact hno (i - 1) (by omega) (hed _ (hch i h'' hilt))
      have hol : ops.toList[i]? = some o := by simpa using ho
      obtain ⟨v, hv⟩ : ∃ v, vals[i]? = some v := ⟨vals[i]'(by omega), List.getElem?_eq_getElem _⟩
      have hX : StepX cx n ops (hp listed) (hp (listed.setIfInBounds i true)) K (restr ops.toList o (ovl (ops.toList.take i) (vals.take i) fr)) o v :=
        hstep i o v him hol hv listed hs (by simp [Listed, h0]) hed hdn
      obtain ⟨hdstI, hst⟩ := hX
      have hnl : ¬ Listed listed i := by simp [Listed, h0]
      have hfr : FRel r w n (restr ops.toList o (ovl (ops.toList.take i) (vals.take i) fr)) a := by
        refine ⟨hfl.size, fun t => ?_, fun vs hm => ?_⟩
        case refine_2 =>
          unfold restr at hm
          rcases restr_get (slotsOf ops.toList o) (ovl (ops.toList.take i) (vals.take i) fr) n with h | ⟨h1, h2⟩
          · rw [h] at hm; cases hm
          · rw [h2] at hm
            exact hfl.defs vs (ovlN i (by omega) vs hm)
        unfold restr
        rcases restr_get (slotsOf ops.toList o) (ovl (ops.toList.take i) (vals.take i) fr) t with h | ⟨h1, h2⟩
        · rw [h]; exact .top
        · rw [h2]
          have hro := hread i o t him hol h1
          have hrd : ∀ i', i' < m → dstOf ops.toList i' = some t → (i' < i → edge ops.toList i i' = true) ∧ (i < i' → edge ops.toList i' i = true) := by
            intro i' hi' hd'
            have := allB_mem hro _ (List.mem_map.2 ⟨i', List.mem_range.2 hi', rfl⟩)
            rw [eqDst_iff.2 hd'] at this
            simp only at this
            constructor
            · intro hlt
              rw [lt_blt hlt] at this
              exact this
            · intro hlt
              rw [show Nat.blt i' i = false by cases hbb : Nat.blt i' i with | false => rfl | true => (have := blt_lt hbb; omega), show Nat.beq i' i = false by cases hbb : Nat.beq i' i with | false => rfl | true => (have := Nat.eq_of_beq_eq_true hbb; omega)] at this
              exact this
          rcases ovl_get (ops.toList.take i) (vals.take i) fr t (by simp [hlen]; omega) with ⟨i', o', v', k1, k2, k3, k4⟩ | ⟨k1, k2⟩
          · rw [k4]
            have hi'i : i' < i := by
              rcases Nat.lt_or_ge i' i with h' | h'
              · exact h'
              · rw [List.getElem?_eq_none (by simp; omega)] at k1; cases k1
            rw [List.getElem?_take_of_lt hi'i] at k1 k3
            have hd' : dstOf ops.toList i' = some t := by simp only [dstOf, k1, Option.bind_some, k2]
            exact hfl.done i' t v' (by omega) (hed _ ((hrd i' (by omega) hd').1 hi'i)) hd' k3
          · rw [k2]
            refine hfl.rest t (fun j hj hlj hdj => ?_)
            rcases Nat.lt_trichotomy j i with h' | h' | h'
            · obtain ⟨oj, hoj, hod⟩ := Option.bind_eq_some_iff.1 hdj
              exact k1 j oj (by rw [List.getElem?_take_of_lt h']; exact hoj) hod
            · subst h'; exact hnl hlj
            · exact hnl (hdn j i hlj ((hrd j hj hdj).2 h'))
      have next : ∀ (r' : Rl) (w' : World) (v' : Value), VRel r' w' v' v → Inv cx r' (hp (listed.setIfInBounds i true)) w' → Ext r (hp listed) w r' (hp (listed.setIfInBounds i true)) w' → wpAny cx.P .any ops Q' f (listed.setIfInBounds i true) (a.put o.dst v') w' := by
        intro r' w' v' hv' hi' hx'
        have hun := unl_set (by omega) h0
        refine ih _ r' _ w' (by simpa using hs) (by omega) (fun j l hj he => ?_) (fun j hj hl => ?_) ⟨?_, fun j d u hj hl hdj hu => ?_, fun t ht => ?_, fun vs hm => by rw [Act.put_defers]; exact (hfl.defs vs hm).mono (hx'.grow hi)⟩ hi' (hd.put _ _) (hx.trans hx')
        · rw [listed_set (by omega)] at hj ⊢
          rcases hj with rfl | hj
          · exact .inr (hed l he)
          · exact .inr (hdn j l hj he)
        · rw [listed_set (by omega)] at hl
          rcases hl with rfl | hl
          · omega
          · exact hno j hj hl
        · cases hod : o.dst <;> simp [Act.put, hfl.size]
        · have hg := hx'.grow hi
          rw [listed_set (by omega)] at hl
          by_cases hji : j = i
          · subst hji
            rw [hv] at hu; cases hu
            have hod : o.dst = some d := by simpa [dstOf, hol] using hdj
            rw [hod]
            rw [hod] at hdstI
            simp only [Act.put]
            rw [getD_setIfInBounds (by rw [hfl.size]; exact blt_lt hdstI), if_pos rfl]
            exact hv'
          · have hl' := hl.resolve_left hji
            have hold := (hfl.done j d u hj hl' hdj hu).mono hg
            cases hod : o.dst with
            | none => exact hold
            | some d' =>
              have hne : d' ≠ d := fun e => hji (huniq j i d hj him hdj (by subst e; simp [dstOf, hol, hod]))
              rw [hod] at hdstI
              simp only [Act.put]
              rw [getD_setIfInBounds (by rw [hfl.size]; exact blt_lt hdstI), if_neg hne]
              exact hold
        · have hg := hx'.grow hi
          have hold := (hfl.rest t (fun j hj hl => ht j hj ((listed_set (by omega)).2 (.inr hl)))).mono hg
          have hti := ht i him ((listed_set (by omega)).2 (.inl rfl))
          cases hod : o.dst with
          | none => exact hold
          | some d' =>
            have hne : d' ≠ t := fun e => hti (by subst e; simp [dstOf, hol, hod])
            rw [hod] at hdstI
            simp only [Act.put]
            rw [getD_setIfInBounds (by rw [hfl.size]; exact blt_lt hdstI), if_neg hne]
            exact hold
      unfold wpOp
      simp only [ho]
      rcases hst with ⟨hg, rfl, hσ⟩ | ⟨hg, hgo⟩
      · rw [guardA_wanted (cx := cx) hfr hg]
        simp only [Bool.false_eq_true, if_false]
        exact next r w undef (.tup rfl (fun i h => absurd h (by simp))) (by rw [hσ]; exact hi) (by rw [hσ]; exact Ext.refl _ _ _)
      · rw [guardA_wanted (cx := cx) hfr hg]
        simp only [if_true]
        refine .inl (Oper.wp_mono (fun a' w' h => ?_) (hgo r a w hi hfr Q'))
        obtain ⟨r', v', rfl, h2, h3, h4⟩ := h
        exact next r' w' v' h2 h3 h4
def hp2 (σ σ1 σ2 : Heap) (j1 j2 : Nat) (listed : Array Bool) : Heap := bif listed.getD j2 false then σ2 else bif listed.getD j1 false then σ1 else σ
theorem OpSpec.aop {σ' : Heap} {o : Oper} {C : List Prop} {v : AV} (h : aOp cx [] o.dst o.op fr σ = some (C, v, σ')) (hC : AllP C) : OpSpec cx n fr σ o v σ' := fun r a w hi hf => aOp_run hi hf h hC
end
end Go.Ab
end
section
set_option linter.unusedVariables false
set_option linter.unusedSimpArgs false
namespace Go.Ab
open Go
section
variable {cx : Cx} {n : Nat} {B : Bs} {k : List AI} {Q : Post} {fr : Fr} {σ : Heap}
def hp1 (σ σ1 : Heap) (j1 : Nat) (listed : Array Bool) : Heap := bif listed.getD j1 false then σ1 else σ
def chgW (cx : Cx) (n : Nat) (σ σ1 : Heap) (o : Oper) (fr : Fr) (v : AV) : Prop := match callA cx fr o.op with
  | some (f, args) => CallOk cx f args σ (fun out s => out = .ret v ∧ s = σ1)
  | none => OpSpec cx n fr σ o v σ1
def runW (cx : Cx) (K : List Nat) (n : Nat) (all : Array Oper) (ops : List Oper) (σ σ1 : Heap) (j1 : Nat) : List Oper → Nat → Fr → List AV → Option (List Prop × List AV × Fr)
  | [], _, fr, rs => some ([], [], fr)
  | o :: r, i, fr, rs => match Nat.beq i j1 with
    | true => match rs with
      | v :: rs => match dstOk n o.dst with
        | true => match guardA all o K (restr ops o fr) with
          | some true => match runW cx K n all ops σ σ1 j1 r (i + 1) (setA o.dst v fr) rs with
            | some (D, vs, fr') => some (chgW cx n σ σ1 o (restr ops o fr) v :: D, v :: vs, fr')
            | none => none
          | _ => none
        | false => none
      | [] => none
    | false => match edge ops i j1 with
      | true => match oneD cx K n all σ1 o (restr ops o fr) rs with
        | some (C, v, rs') => forceV v fun v => match runW cx K n all ops σ σ1 j1 r (i + 1) (setA o.dst v fr) rs' with
          | some (D, vs, fr') => some (C ++ D, v :: vs, fr')
          | none => none
        | none => none
      | false => match edge ops j1 i with
        | true => match oneD cx K n all σ o (restr ops o fr) rs with
          | some (C, v, rs') => forceV v fun v => match runW cx K n all ops σ σ1 j1 r (i + 1) (setA o.dst v fr) rs' with
            | some (D, vs, fr') => some (C ++ D, v :: vs, fr')
            | none => none
          | none => none
        | false => match oneD cx K n all σ o (restr ops o fr) rs with
          | some (C, v, rs') => match oneD cx K n all σ1 o (restr ops o fr) rs with
            | some (C1, v1, _) => forceV v fun v => match runW cx K n all ops σ σ1 j1 r (i + 1) (setA o.dst v fr) rs' with
              | some (D, vs, fr') => some (C ++ (C1 ++ ((v1 = v) :: D)), v :: vs, fr')
              | none => none
            | none => none
          | none => none
theorem chgW_step {σ1 : Heap} {K : List Nat} {all : Array Oper} {o : Oper} {v : AV} (hd : dstOk n o.dst = true) (hg : guardA all o K fr = some true) (h : chgW cx n σ σ1 o fr v) : StepX cx n all σ σ1 K fr o v := by
  unfold chgW at h
  split at h
  · rename_i f args hc
    exact callC_step hd hg hc h
  · exact specC_step hd hg h
theorem runW_spec {σ1 : Heap} {j1 : Nat} {K : List Nat} {all : Array Oper} {ops : List Oper} : ∀ {l : List Oper} {i : Nat} {fr fr' : Fr} {rs vals : List AV} {C : List Prop}, runW cx K n all ops σ σ1 j1 l i fr rs = some (C, vals, fr') → AllP C →
    vals.length = l.length ∧ fr' = ovl l vals fr ∧ ∀ (j : Nat) (o : Oper) (v : AV), l[j]? = some o → vals[j]? = some v →
      (i + j ≠ j1 → ∀ b : Bool, (edge ops (i + j) j1 = true → b = true) → (edge ops j1 (i + j) = true → b = false) → StepX cx n all (bif b then σ1 else σ) (bif b then σ1 else σ) K (restr ops o (ovl (l.take j) (vals.take j) fr)) o v) ∧
      (i + j = j1 → StepX cx n all σ σ1 K (restr ops o (ovl (l.take j) (vals.take j) fr)) o v)
  | [], i, fr, fr', rs, vals, C, h, hC => by
    simp only [runW, Option.some.injEq, Prod.mk.injEq] at h
    obtain ⟨rfl, rfl, rfl⟩ := h
    exact ⟨rfl, rfl, fun j o v h => by simp at h⟩
  | o :: l, i, fr, fr', rs, vals, C, h, hC => by
    have next : ∀ {v : AV} {vs : List AV} {fr1 : Fr} {D : List Prop} {rs' : List AV}, runW cx K n all ops σ σ1 j1 l (i + 1) (setA o.dst v fr) rs' = some (D, vs, fr1) → AllP D →
        ((i ≠ j1 → ∀ b : Bool, (edge ops i j1 = true → b = true) → (edge ops j1 i = true → b = false) → StepX cx n all (bif b then σ1 else σ) (bif b then σ1 else σ) K (restr ops o fr) o v) ∧ (i = j1 → StepX cx n all σ σ1 K (restr ops o fr) o v)) →
        (v :: vs).length = (o :: l).length ∧ fr1 = ovl (o :: l) (v :: vs) fr ∧ ∀ (j : Nat) (o' : Oper) (v' : AV), (o :: l)[j]? = some o' → (v :: vs)[j]? = some v' →
          (i + j ≠ j1 → ∀ b : Bool, (edge ops (i + j) j1 = true → b = true) → (edge ops j1 (i + j) = true → b = false) → StepX cx n all (bif b then σ1 else σ) (bif b then σ1 else σ) K (restr ops o' (ovl ((o :: l).take j) ((v :: vs).take j) fr)) o' v') ∧
          (i + j = j1 → StepX cx n all σ σ1 K (restr ops o' (ovl ((o :: l).take j) ((v :: vs).take j) fr)) o' v') := by
      intro v vs fr1 D rs' h2 hD h0
      obtain ⟨k1, k2, k3⟩ := runW_spec h2 hD
      refine ⟨by simp [k1], by rw [k2]; rfl, fun j oj vj hj hvj => ?_⟩
      cases j with
      | zero =>
        simp only [List.getElem?_cons_zero, Option.some.injEq] at hj hvj
        subst hj; subst hvj
        exact h0
      | succ j =>
        simp only [List.getElem?_cons_succ] at hj hvj
        have := k3 j oj vj hj hvj
        rw [show i + 1 + j = i + (j + 1) by omega] at this
        exact this
    simp only [runW] at h
    split at h
    · rename_i hb
      have hij : i = j1 := Nat.eq_of_beq_eq_true hb
      split at h
      case h_2 => cases h
      split at h
      case h_2 => cases h
      rename_i hds
      split at h
      case h_2 => cases h
      rename_i hg
      split at h
      case h_2 => cases h
      rename_i h2
      simp only [Option.some.injEq, Prod.mk.injEq] at h
      obtain ⟨rfl, rfl, rfl⟩ := h
      exact next h2 hC.2 ⟨fun h => absurd hij h, fun _ => chgW_step hds hg hC.1⟩
    · rename_i hb
      have hij : i ≠ j1 := fun e => by rw [e, Nat.beq_refl] at hb; cases hb
      split at h
      · rename_i he
        split at h
        case h_2 => cases h
        rename_i C1 v rs' h1
        rw [forceV_eq] at h
        split at h
        case h_2 => cases h
        rename_i h2
        simp only [Option.some.injEq, Prod.mk.injEq] at h
        obtain ⟨rfl, rfl, rfl⟩ := h
        obtain ⟨hC1, hD⟩ := AllP_append hC
        refine next h2 hD ⟨fun _ b hb1 _ => ?_, fun h => absurd h hij⟩
        rw [hb1 he]
        exact (oneD_spec h1 hC1).x
      · split at h
        · rename_i he
          split at h
          case h_2 => cases h
          rename_i C1 v rs' h1
          rw [forceV_eq] at h
          split at h
          case h_2 => cases h
          rename_i h2
          simp only [Option.some.injEq, Prod.mk.injEq] at h
          obtain ⟨rfl, rfl, rfl⟩ := h
          obtain ⟨hC1, hD⟩ := AllP_append hC
          refine next h2 hD ⟨fun _ b _ hb2 => ?_, fun h => absurd h hij⟩
          rw [hb2 he]
          exact (oneD_spec h1 hC1).x
        · split at h
          case h_2 => cases h
          rename_i C1 v rs' h1
          split at h
          case h_2 => cases h
          rename_i C1' v' _ h1'
          rw [forceV_eq] at h
          split at h
          case h_2 => cases h
          rename_i h2
          simp only [Option.some.injEq, Prod.mk.injEq] at h
          obtain ⟨rfl, rfl, rfl⟩ := h
          obtain ⟨hC1, hD1⟩ := AllP_append hC
          obtain ⟨hC1', hv, hD⟩ := AllP_append hD1
          subst hv
          refine next h2 hD ⟨fun _ b _ _ => ?_, fun h => absurd h hij⟩
          cases b with
          | true => exact (oneD_spec h1' hC1').x
          | false => exact (oneD_spec h1 hC1).x
theorem S_drawW {id : Nat} (σ1 : Heap) (j1 : Nat) {ops : Array Oper} {vals : List AV} {C : List Prop} {fr' : Fr} (m : Nat) (K : List Nat) (rs : List AV) (hP : cx.P.follows .mixedOrders = true) (hchk : drawOk ops.toList m = true) (hmN : Nat.ble m ops.size = true) (hj : Nat.blt j1 m = true)
    (hrun : normC (runW cx K n ops ops.toList σ σ1 j1 (ops.toList.take m) 0 fr rs) = some (C, vals, fr')) (hC : AllP C)
    (hk : S cx n B (.ops ops (ops.toList.drop m) [] :: k) Q fr' σ1) : S cx n B (.code (.region id ops true) :: k) Q fr σ := by
  intro r a w hi hf hd hx
  rw [normC_eq] at hrun
  obtain ⟨c1, c2, c3, c4, c5⟩ := drawOk_spec hchk
  obtain ⟨k1, k2, k3⟩ := runW_spec hrun hC
  have hmN' := Nat.le_of_ble_eq_true hmN
  have hjlt := blt_lt hj
  have hlen : vals.length = m := by rw [k1]; simp; omega
  obtain ⟨hi1, hx1⟩ := hi.heap_eq (w' := { w with drawn := w.drawn + 1 }) rfl rfl rfl rfl
  have hf1 := hf.mono (hx1.grow hi)
  have nl : ∀ {j : Nat}, ¬ Listed (Array.replicate ops.size false) j := by
    intro j hj
    unfold Listed at hj
    rw [Array.getD_eq_getD_getElem?, Array.getElem?_replicate] at hj
    split at hj <;> simp at hj
  have nlF : ∀ {j : Nat}, (Array.replicate ops.size false).getD j false = false := by
    intro j
    cases hb : (Array.replicate ops.size false).getD j false with
    | false => rfl
    | true => exact absurd hb nl
  have h0 : hp1 σ σ1 j1 (Array.replicate ops.size false) = σ := by unfold hp1; rw [nlF]; rfl
  have hgs : ∀ (listed : Array Bool) (i j : Nat), i < listed.size → (listed.setIfInBounds i true).getD j false = if j = i then true else listed.getD j false := by
    intro listed i j hil
    simp only [Array.getD_eq_getD_getElem?, Array.getElem?_setIfInBounds]
    by_cases h : i = j
    · subst h; simp [hil]
    · rw [if_neg h, if_neg (Ne.symm h)]
  have hstep : ∀ (j : Nat) o v, j < m → ops.toList[j]? = some o → vals[j]? = some v → ∀ listed : Array Bool, listed.size = ops.size → ¬ Listed listed j → (∀ i, edge ops.toList j i = true → Listed listed i) → Down ops.toList listed →
      StepX cx n ops (hp1 σ σ1 j1 listed) (hp1 σ σ1 j1 (listed.setIfInBounds j true)) K (restr ops.toList o (ovl (ops.toList.take j) (vals.take j) fr)) o v := by
    intro j o v hjm ho hv listed hs hnl hed hdn
    have h := k3 j o v (by rw [List.getElem?_take_of_lt hjm]; exact ho) hv
    rw [List.take_take, Nat.min_eq_left (by omega), Nat.zero_add] at h
    have hnlF : listed.getD j false = false := by
      cases hb : listed.getD j false with
      | false => rfl
      | true => exact absurd hb hnl
    by_cases e1 : j = j1
    · subst e1
      have a1 : hp1 σ σ1 j listed = σ := by unfold hp1; rw [hnlF]; rfl
      have a2 : hp1 σ σ1 j (listed.setIfInBounds j true) = σ1 := by
        unfold hp1
        rw [hgs _ _ _ (by omega), if_pos rfl]; rfl
      rw [a1, a2]
      exact h.2 rfl
    · have a1 : hp1 σ σ1 j1 (listed.setIfInBounds j true) = hp1 σ σ1 j1 listed := by
        unfold hp1
        rw [hgs _ _ _ (by omega), if_neg (Ne.symm e1)]
      rw [a1]
      unfold hp1
      refine h.1 e1 _ (fun he => hed j1 he) (fun he => ?_)
      cases hb : listed.getD j1 false with
      | false => rfl
      | true => exact absurd (hdn j1 j hb he) hnl
  refine wp_region_any hP ?_
  refine wpAny_frontG (σ' := σ1) (hp := hp1 σ σ1 j1) (cx := cx) (n := n) (B := B) (fr := fr) (m := m) (vals := vals) (K := K) hmN' hlen c1 c2 c3 c4 c5 (fun listed hall => ?_) (fun j o hjm ho => ?_) hstep (fun r a w hi hf hd hx => ?_) ops.size _ r a _ (by simp) ?_ (fun j i hj => ?_) (fun j _ => ?_) ⟨hf1.size, fun j d v _ hj => ?_, fun t _ => hf1.get t, hf1.defs⟩ (by rw [h0]; exact hi1) hd (by rw [h0]; exact hx.trans hx1)
  · have : listed.getD j1 false = true := hall j1 hjlt
    unfold hp1; rw [this]; rfl
  · obtain ⟨v, hv⟩ : ∃ v, vals[j]? = some v := ⟨vals[j]'(by omega), List.getElem?_eq_getElem _⟩
    have h := k3 j o v (by rw [List.getElem?_take_of_lt hjm]; exact ho) hv
    rw [Nat.zero_add] at h
    by_cases e1 : j = j1
    · exact (h.2 e1).1
    · cases he : edge ops.toList j j1 with
      | true => exact (h.1 e1 true (fun _ => rfl) (fun e => by have := c4 _ _ he; have := c4 _ _ e; omega)).1
      | false => exact (h.1 e1 false (fun e => by rw [he] at e; cases e) (fun _ => rfl)).1
  · rw [k2] at hk
    exact hk r a w hi hf hd hx
  · unfold unl; simp [List.countP_replicate]
  · exact absurd hj nl
  · exact nl
  · exact absurd hj nl
end
end Go.Ab
end
section
set_option linter.unusedVariables false
set_option linter.unusedSimpArgs false
set_option maxRecDepth 20000
namespace Go.Proofs.YtnfalbdnkgaelaaDoor
open Go Go.Ab
theorem SameTexts_ok {st st' fl fl' : Bool} (a b : List (List UInt8)) (hl : a.length ≤ 9223372036854775806) (hb : b.length ≤ 9223372036854775807) : Calc cx 28 [.sl st fl 1 (texts a), .sl st' fl' 1 (texts b)] (.bool (a == b)) :=
  pure_intro (fun a w => Tryd.call28 a w) Tryd.func28 rfl Tryd.ntmps28 rfl .bool fun B => by
    refine ab 1000 rfl trivial ?_
    refine S_bne rfl (fun h => ?_) (fun h => ?_)
    · refine ab 1000 rfl trivial ?_
      refine S_retc .bool rfl trivial ?_
      have hne : a ≠ b := by
        intro e; subst e; exact h rfl
      rw [show (a == b) = false by simpa using hne]; rfl
    · have hlen : a.length = b.length := by simp [texts] at h; omega
      refine ab 1000 rfl trivial ?_
      refine S_while (α := Nat) (fun i => [(0, .sl st fl 1 (texts a)), (1, .sl st' fl' 1 (texts b)), (5, .int .i64 i)]) (fun _ => []) (fun i => i ≤ a.length ∧ a.take i = b.take i) (fun i => a.length - i) 0
        ⟨by simp, by simp⟩ (.cons rfl (.cons rfl (.cons rfl (.nil _)))) rfl ?_
      rintro i ⟨hi, hN⟩
      refine ab 1000 rfl trivial ?_
      refine S_dec rfl (fun h => ?_) (fun h => ?_)
      · have hil : i < a.length := by simp [texts] at h; omega
        have hil' : i < b.length := by omega
        refine ab 1000 rfl trivial ?_
        refine S_draw 9 [] [.str a[i], .str b[i]] rfl rfl rfl rfl ⟨rfl, rfl, rfl, by omega, by simp [texts, List.getElem?_eq_getElem hil], rfl, rfl, rfl, rfl, by omega, by simp [texts, List.getElem?_eq_getElem hil'], rfl, rfl, trivial⟩ ?_
        refine ab 1000 rfl trivial ?_
        refine S_cond rfl (fun h => ?_) (fun h => ?_)
        · have hne : a[i] ≠ b[i] := by simpa using h
          refine ab 1000 rfl trivial ?_
          refine S_retc .bool rfl trivial ?_
          have hne : a ≠ b := by
            intro e; subst e; exact hne rfl
          rw [show (a == b) = false by simpa using hne]; rfl
        · have he : a[i] = b[i] := by simpa using h
          refine ab 1000 rfl trivial ?_
          refine S_round (i + 1) (by show a.length - (i + 1) < a.length - i; omega) ⟨hil, ?_⟩ (.cons rfl (.cons rfl (.cons (ai64 rfl (by omega)) (.nil _)))) rfl
          rw [List.take_succ_eq_append_getElem hil, List.take_succ_eq_append_getElem hil', hN, he]
      · have hil : i = a.length := by simp [texts] at h; omega
        refine ab 1000 rfl trivial ?_
        refine S_retc .bool rfl trivial ?_
        have he : a = b := by
          rw [← List.take_of_length_le (l := a) (i := i) (by omega), ← List.take_of_length_le (l := b) (i := i) (by omega)]; exact hN
        rw [show (a == b) = true by simpa using he]; rfl
end Go.Proofs.YtnfalbdnkgaelaaDoor
end
section
set_option linter.unusedVariables false
set_option linter.unusedSimpArgs false
set_option maxRecDepth 20000
set_option maxHeartbeats 1000000
namespace Go.Proofs.YtnfalbdnkgaelaaDoor
open Go Go.Ab
def pqB (v : Nat) (l : List Tx) (g g' : Option TypeId) : Heap := [(v, some (.cells (texts l) ⟨false, g⟩)), (0, some (.cells [.ms 0 v 0 l.length 1 false] ⟨false, g'⟩))]
def pqP : AV := .ptr 1 0 0
def pqI : AV := .iface 79 pqP
theorem gtx_at {l : List Tx} {i : Nat} (h : i < l.length) : (texts l)[i]? = some (.str (gtx l i)) := by
  unfold gtx texts; simp [List.getD, List.getElem?_eq_getElem h]
theorem mLen : MethL Tryd.prog 79 "Len" 58 80 := methL_of rfl rfl rfl rfl Tryd.underlying79
theorem mLess : MethL Tryd.prog 79 "Less" 124 80 := methL_of rfl rfl rfl rfl Tryd.underlying79
theorem mSwap : MethL Tryd.prog 79 "Swap" 127 80 := methL_of rfl rfl rfl rfl Tryd.underlying79
theorem mPush : MethP Tryd.prog 79 "Push" 126 := fun a w => rfl
theorem mPop : MethP Tryd.prog 79 "Pop" 125 := fun a w => rfl
theorem pqLen_ok (id v n : Nat) (σ : Heap) : CallOk cx 58 [.ms id v 0 n 1 false] σ (fun e s => e = .ret (.int .i64 (n : Nat)) ∧ s = σ) :=
  callOk_intro (fun a w => Tryd.call58 a w) Tryd.func58 rfl Tryd.ntmps58 rfl fun B => by
    refine pB [] rfl ?_
    exact S_ret ⟨_, _, rfl, trivial, rfl, rfl⟩
theorem gtx_ld {l : List Tx} {i : Nat} (h : i < l.length) : (List.drop (offN 0 (mulN ((i : Int)).toNat 1)) (texts l))[0]? = some (.str (gtx l i)) := by
  rw [offN_eq, mulN_eq, Int.toNat_natCast, Nat.mul_one, Nat.zero_add, List.getElem?_drop, Nat.add_zero]
  exact gtx_at h
theorem gtx_st {l : List Tx} {i : Nat} (x : Tx) (h : i < l.length) : setRange (texts l) (offN 0 (mulN ((i : Int)).toNat 1)) [.str x] = texts (l.set i x) := by
  rw [offN_eq, mulN_eq, Int.toNat_natCast, Nat.mul_one, Nat.zero_add]
  apply List.ext_getElem?
  intro k
  rw [setRange_get _ _ _ (by simp [texts]; omega)]
  unfold texts
  simp only [List.getElem?_map, List.getElem?_set, List.length_map, List.length_cons, List.length_nil]
  by_cases hk : i = k
  · subst hk
    rw [if_pos (by omega), if_pos rfl, if_pos h]; simp
  · rw [if_neg (by omega), if_neg hk]
theorem gtx_le {l : List Tx} {i : Nat} (h : i < l.length) : offN 0 (mulN ((i : Int)).toNat 1) + 1 ≤ (texts l).length := by
  rw [offN_eq, mulN_eq, Int.toNat_natCast]; simp [texts]; omega
theorem pqLess_ok (v i j : Nat) (l : List Tx) (g g' : Option TypeId) (hi : i < l.length) (hj : j < l.length) : CallOk cx 124 [.ms 0 v 0 l.length 1 false, .int .i64 (i : Nat), .int .i64 (j : Nat)] (pqB v l g g') (fun e s => e = .ret (.bool (Op.bytesLess (gtx l i) (gtx l j))) ∧ s = pqB v l g g') :=
  callOk_intro (fun a w => Tryd.call124 a w) Tryd.func124 rfl Tryd.ntmps124 rfl fun B => by
    refine pa [.v .top, .v (.str (gtx l i)), .v .top, .v (.str (gtx l j))] rfl ?_ ?_
    · (repeat' with_reducible apply AllP_cons) <;> try exact aC
      · exact gtx_ld hi
      · exact gtx_ld hj
    exact S_ret ⟨_, _, rfl, trivial, rfl, rfl⟩
theorem pqSwap_ok (v i j : Nat) (l : List Tx) (g g' : Option TypeId) (hi : i < l.length) (hj : j < l.length) : CallOk cx 127 [.ms 0 v 0 l.length 1 false, .int .i64 (i : Nat), .int .i64 (j : Nat)] (pqB v l g g') (fun e s => e = .ret (.tup []) ∧ s = pqB v (swpX l i j) g g') :=
  callOk_intro (fun a w => Tryd.call127 a w) Tryd.func127 rfl Tryd.ntmps127 rfl fun B => by
    refine pB [.s] rfl ?_
    refine S_drawW [(v, some (.cells (setRange (texts l) (offN 0 (mulN ((i : Int)).toNat 1)) [.str (gtx l j)]) ⟨false, g⟩)), (0, some (.cells [.ms 0 v 0 l.length 1 false] ⟨false, g'⟩))] 13 15 [] [.top, .str (gtx l j), .top, .str (gtx l i), .top, .tup [], .top] rfl rfl rfl rfl rfl ?_ ?_
    · (repeat' with_reducible apply AllP_cons) <;> try exact aC
      · exact gtx_ld hj
      · exact gtx_ld hi
      · exact OpSpec.store rfl ⟨rfl, rfl, rfl, gtx_le hi, trivial⟩
    rw [gtx_st (gtx l j) hi]
    refine pa [] rfl ?_ ?_
    · (repeat' with_reducible apply AllP_cons) <;> try exact aC
      · exact gtx_le (by simpa using hj)
    refine S_nil ⟨_, _, rfl, trivial, rfl, ?_⟩
    have e := gtx_st (l := l.set i (gtx l j)) (i := j) (gtx l i) (by simpa using hj)
    have e2 : pqB v (swpX l i j) g g' = [(v, some (.cells (setRange (texts (l.set i (gtx l j))) (offN 0 (mulN ((j : Int)).toNat 1)) [.str (gtx l i)]) ⟨false, g⟩)), (0, some (.cells [.ms 0 v 0 l.length 1 false] ⟨false, g'⟩))] := by
      rw [e, pqB, swpX_len]; rfl
    rw [e2]
    rfl
theorem pqPop_ok (v : Nat) (l : List Tx) (g' : Option TypeId) (hl : 0 < l.length) (hb : l.length ≤ 1000000) : CallOk cx 125 [pqP] (pqB v l none g') (fun e s => e = .ret (.iface 9 (.str (gtx l (l.length - 1)))) ∧ s = pqB v (l.take (l.length - 1)) none g') :=
  callOk_intro (fun a w => Tryd.call125 a w) Tryd.func125 rfl Tryd.ntmps125 rfl fun B => by
    have h1 : IntKind.i64.wrap ((l.length : Int) - 1) = ((l.length - 1 : Nat) : Int) := w64 (by omega) (by omega)
    refine pa [.v .top, .v (.str (gtx l (l.length - 1)))] rfl ?_ ?_
    · (repeat' with_reducible apply AllP_cons) <;> first | rw [h1] | exact aC | skip
      · omega
      · omega
      · exact gtx_ld (by omega)
      · omega
      · omega
    refine S_heap [(v, some (.cells (texts l) ⟨false, none⟩)), (0, some (.cells [.ms 0 v 0 (l.length - 1) 1 false] ⟨false, g'⟩))] (congrArg (fun n : Nat => ([(v, some (Box.cells (texts l) ⟨false, none⟩)), (0, some (Box.cells [AV.ms 0 v 0 n 1 false] ⟨false, g'⟩))] : Heap)) ?_) ?_
    · show (IntKind.i64.wrap ((l.length : Int) - 1)).toNat - 0 = l.length - 1
      rw [h1]; omega
    refine S_cut (id := 0) (l.length - 1) rfl ⟨_, _, .inl rfl⟩ ?_
    refine S_ret ⟨_, _, rfl, trivial, rfl, ?_⟩
    show [(v, some (Box.cells ((texts l).take (l.length - 1)) ⟨false, none⟩)), (0, some (Box.cells [AV.ms 0 v 0 (l.length - 1) 1 false] ⟨false, g'⟩))] = _
    unfold pqB texts
    rw [List.map_take, List.length_take, Nat.min_eq_left (by omega)]
theorem pqPush_ok (v : Nat) (l : List Tx) (x : Tx) (g' : Option TypeId) (hb : l.length ≤ 1000000) : CallOk cx 126 [pqP, .iface 9 (.str x)] (pqB v l none g') (fun e s => e = .ret (.tup []) ∧ s = pqB (v + 1) (l ++ [x]) none g') :=
  callOk_intro (fun a w => Tryd.call126 a w) Tryd.func126 rfl Tryd.ntmps126 rfl fun B => by
    refine pB [.s] rfl ?_
    refine S_drawW [(v + 1, some (.cells (texts l ++ [.str x]) ⟨false, none⟩)), (0, some (.cells [.ms 0 v 0 l.length 1 false] ⟨false, g'⟩))] 7 9 [] [.ms 0 (v + 1) 0 (l.length + 1) 1 false] rfl rfl rfl rfl rfl ?_ ?_
    · (repeat' with_reducible apply AllP_cons) <;> try exact aC
      · have h1 : ∀ y ∈ flatA 1 [AV.str x], y.one = true := by intro y hy; have hy : y ∈ [AV.str x] := hy; rw [List.mem_singleton.1 hy]; rfl
        refine OpSpec.aop rfl ⟨rfl, h1, h1, rfl, rfl, ?_, ?_, ?_, trivial⟩
        · show 0 + l.length * 1 = (texts l).length
          unfold texts; simp
        · show (l.length + 1) * 16 ≤ 140737488355328
          omega
        · show l.length + 1 ≤ 9223372036854775807
          omega
    refine pB [] rfl ?_
    refine S_nil ⟨_, _, rfl, trivial, rfl, ?_⟩
    show [(v + 1, some (Box.cells (texts l ++ [.str x]) ⟨false, none⟩)), (0, some (Box.cells [AV.ms 0 (v + 1) 0 (l.length + 1) 1 false] ⟨false, g'⟩))] = _
    unfold pqB texts
    rw [List.map_append, List.length_append]; rfl
end Go.Proofs.YtnfalbdnkgaelaaDoor
end
section
set_option linter.unusedVariables false
set_option linter.unusedSimpArgs false
set_option maxRecDepth 20000
set_option maxHeartbeats 1000000
namespace Go.Proofs.YtnfalbdnkgaelaaDoor
open Go Go.Ab
theorem ai64i_eq {x : Int} (hk : -9223372036854775808 ≤ x ∧ x ≤ 9223372036854775807) : IntKind.i64.wrap x = x := IntWalk.i64_in _ hk
theorem pqRecv {name : String} {f : FuncId} (h : MethL Tryd.prog 79 name f 80) (v : Nat) (l : List Tx) (g g' : Option TypeId) : Recv cx (pqB v l g g') 79 name f pqP (.ms 0 v 0 l.length 1 false) :=
  .load (cs := [.ms 0 v 0 l.length 1 false]) (g := ⟨false, g'⟩) h rfl rfl
theorem up_ok (v j0 : Nat) (l0 : List Tx) (g g' : Option TypeId) (hj0 : j0 < l0.length) (hb : l0.length ≤ 1000000) : CallOk cx 68 [pqI, .int .i64 (j0 : Nat)] (pqB v l0 g g') (fun e s => e = .ret (.tup []) ∧ s = pqB v (upX (j0 + 1) j0 l0) g g') :=
  callOk_intro (fun a w => Tryd.call68 a w) Tryd.func68 rfl Tryd.ntmps68 rfl fun B => by
    refine pB [] rfl ?_
    refine S_while (α := Nat × List Tx) (fun s => [(0, pqI), (1, .int .i64 (s.1 : Nat))]) (fun s => pqB v s.2 g g') (fun s => s.1 < s.2.length ∧ s.2.length = l0.length ∧ ∃ f, s.1 < f ∧ upX f s.1 s.2 = upX (j0 + 1) j0 l0) (fun s => s.1)
      (j0, l0) ⟨hj0, rfl, j0 + 1, by omega, rfl⟩ (.cons rfl (.cons rfl (.nil _))) rfl ?_
    rintro ⟨j, l⟩ ⟨hj, hl, f, hf, hup⟩
    simp only at hj hl hf hup
    generalize upX (j0 + 1) j0 l0 = R at *
    have hq : IntKind.i64.wrap (Int.tdiv (IntKind.i64.wrap ((j : Int) - 1)) 2) = (((j - 1) / 2 : Nat) : Int) := by
      rw [ai64i_eq (show -9223372036854775808 ≤ (j : Int) - 1 ∧ (j : Int) - 1 ≤ 9223372036854775807 by omega)]
      rcases Nat.eq_zero_or_pos j with rfl | hp
      · rfl
      · rw [show (j : Int) - 1 = ((j - 1 : Nat) : Int) by omega, Int.ofNat_tdiv]
        exact w64 rfl (by omega)
    obtain ⟨f, rfl⟩ : ∃ f', f = f' + 1 := ⟨f - 1, by omega⟩
    conv at hup => lhs; unfold upX
    rcases Nat.eq_zero_or_pos j with rfl | hp
    · rw [if_pos rfl] at hup
      refine pB [.b true, .b true] rfl ?_
      refine S_nil ⟨_, _, rfl, trivial, rfl, ?_⟩
      rw [← hup]
    · rw [if_neg (by omega)] at hup
      have hje : (((j - 1) / 2 : Nat) : Int) ≠ (j : Int) := by omega
      refine pa [.b false] rfl ?_ ?_
      · (repeat' with_reducible apply AllP_cons) <;> try exact aC
        · show (IntKind.i64.wrap (Int.tdiv (IntKind.i64.wrap ((j : Int) - 1)) 2) == (j : Int)) = false
          rw [hq]
          exact beq_eq_false_iff_ne.2 hje
      refine S_invoke1 (y := .bool (Op.bytesLess (gtx l j) (gtx l ((j - 1) / 2)))) rfl rfl (pqRecv mLess _ _ _ _) ?_ (pqLess_ok v j ((j - 1) / 2) l g g' hj (by omega)) rfl rfl ?_
      · show [_, AV.int .i64 (j : Int), AV.int .i64 (IntKind.i64.wrap (Int.tdiv (IntKind.i64.wrap ((j : Int) - 1)) 2))] = _
        rw [hq]
      cases hls : Op.bytesLess (gtx l j) (gtx l ((j - 1) / 2)) with
      | false =>
        rw [hls, if_neg (by simp)] at hup
        refine pB [.b true] rfl ?_
        refine S_nil ⟨_, _, rfl, trivial, rfl, ?_⟩
        rw [← hup]
      | true =>
        rw [hls, if_pos rfl] at hup
        refine pB [.b false] rfl ?_
        refine S_invoke1 (y := .tup []) rfl rfl (pqRecv mSwap _ _ _ _) ?_ (pqSwap_ok v ((j - 1) / 2) j l g g' (by omega) hj) rfl rfl ?_
        · show [_, AV.int .i64 (IntKind.i64.wrap (Int.tdiv (IntKind.i64.wrap ((j : Int) - 1)) 2)), AV.int .i64 (j : Int)] = _
          rw [hq]
        refine pB [] rfl ?_
        exact S_round ((j - 1) / 2, swpX l ((j - 1) / 2) j) (by show (j - 1) / 2 < j; omega) ⟨by rw [swpX_len]; show (j - 1) / 2 < l.length; omega, by rw [swpX_len]; exact hl, f, by show (j - 1) / 2 < f; omega, hup⟩ (.cons rfl (.cons (congrArg (AV.int .i64) hq) (.nil _))) rfl
theorem down_ok (v n : Nat) (l0 : List Tx) (g g' : Option TypeId) (hn : n ≤ l0.length) (hb : l0.length ≤ 1000000) : CallOk cx 69 [pqI, .int .i64 0, .int .i64 (n : Nat)] (pqB v l0 g g') (fun e s => (∃ b, e = .ret b) ∧ s = pqB v (downX l0.length 0 n l0) g g') :=
  callOk_intro (fun a w => Tryd.call69 a w) Tryd.func69 rfl Tryd.ntmps69 rfl fun B => by
    refine pB [] rfl ?_
    refine S_while (α := Nat × List Tx) (fun s => [(0, pqI), (1, .int .i64 0), (2, .int .i64 (n : Nat)), (6, .bool false), (7, .int .i64 (s.1 : Nat))]) (fun s => pqB v s.2 g g') (fun s => s.1 ≤ n ∧ s.2.length = l0.length ∧ ∃ f, n ≤ s.1 + f ∧ downX f s.1 n s.2 = downX l0.length 0 n l0) (fun s => n - s.1)
      (0, l0) ⟨by omega, rfl, l0.length, by omega, rfl⟩ (.cons rfl (.cons rfl (.cons rfl (.cons rfl (.cons rfl (.nil _)))))) rfl ?_
    rintro ⟨i, l⟩ ⟨hi, hl, f, hf, hup⟩
    simp only at hi hl hf hup
    generalize downX l0.length 0 n l0 = R at *
    have h1 : IntKind.i64.wrap (IntKind.i64.wrap (2 * (i : Int)) + 1) = ((2 * i + 1 : Nat) : Int) := by
      rw [ai64i_eq (show -9223372036854775808 ≤ 2 * (i : Int) ∧ 2 * (i : Int) ≤ 9223372036854775807 by omega)]
      exact w64 (by omega) (by omega)
    have h2 : IntKind.i64.wrap (IntKind.i64.wrap (IntKind.i64.wrap (2 * (i : Int)) + 1) + 1) = ((2 * i + 2 : Nat) : Int) := by
      rw [h1]; exact w64 (by omega) (by omega)
    by_cases hle : n ≤ 2 * i + 1
    · have hR : l = R := by
        rw [← hup]
        cases f with
        | zero => rfl
        | succ f => conv => rhs; unfold downX
                    rw [if_pos hle]
      refine pa [.b true, .b true] rfl ?_ ?_
      · (repeat' with_reducible apply AllP_cons) <;> try exact aC
        · show decide (IntKind.i64.wrap (IntKind.i64.wrap (2 * (i : Int)) + 1) ≥ (n : Int)) = true
          rw [h1]; exact decide_eq_true (by omega)
      refine S_ret ⟨_, _, rfl, trivial, ⟨_, rfl⟩, ?_⟩
      rw [← hR]
    · obtain ⟨f, rfl⟩ : ∃ f', f = f' + 1 := ⟨f - 1, by omega⟩
      conv at hup => lhs; unfold downX
      rw [if_neg hle] at hup
      have c1 : decide (IntKind.i64.wrap (IntKind.i64.wrap (2 * (i : Int)) + 1) ≥ (n : Int)) = false := by rw [h1]; exact decide_eq_false (by omega)
      have c2 : decide (IntKind.i64.wrap (IntKind.i64.wrap (2 * (i : Int)) + 1) < 0) = false := by rw [h1]; exact decide_eq_false (by omega)
      obtain ⟨k1, k2, k3, k4⟩ := kidX_lt (l := l) (n := n) (i := i) (by omega)
      have hkid : ∀ b, ((2 * i + 2 < n ∧ Op.bytesLess (gtx l (2 * i + 2)) (gtx l (2 * i + 1)) = true) ↔ b = true) → kidX l n i = bif b then 2 * i + 2 else 2 * i + 1 := by
        intro b hb
        unfold kidX
        cases b with
        | true => rw [if_pos (hb.2 rfl)]; rfl
        | false => rw [if_neg (fun h => by cases hb.1 h)]; rfl
      generalize hkk : kidX l n i = kd at *
      refine' S_share [(0, pqI), (1, .int .i64 0), (2, .int .i64 (n : Nat)), (6, .bool false), (7, .int .i64 (i : Nat)), (9, .int .i64 (kd : Nat))] (pqB v l g g') (fun tail => ?main) ?rest
      case main =>
        by_cases h2n : 2 * i + 2 < n
        · have c3 : decide (IntKind.i64.wrap (IntKind.i64.wrap (IntKind.i64.wrap (2 * (i : Int)) + 1) + 1) < (n : Int)) = true := by rw [h2]; exact decide_eq_true (by omega)
          refine pB [.b false, .b false, .b true] rfl ?_
          refine S_invoke1 (y := .bool (Op.bytesLess (gtx l (2 * i + 2)) (gtx l (2 * i + 1)))) rfl rfl (pqRecv mLess _ _ _ _) ?_ (pqLess_ok v (2 * i + 2) (2 * i + 1) l g g' (by omega) (by omega)) rfl rfl ?_
          · show [_, AV.int .i64 (IntKind.i64.wrap (IntKind.i64.wrap (IntKind.i64.wrap (2 * (i : Int)) + 1) + 1)), AV.int .i64 (IntKind.i64.wrap (IntKind.i64.wrap (2 * (i : Int)) + 1))] = _
            rw [h2, h1]
          cases hls : Op.bytesLess (gtx l (2 * i + 2)) (gtx l (2 * i + 1)) with
          | true =>
            have hk := hkid true ⟨fun _ => rfl, fun _ => ⟨h2n, hls⟩⟩
            refine pan 7 [.b true] rfl ?_ ?_
            · (repeat' with_reducible apply AllP_cons) <;> try exact aC
            refine tail _ (.cons rfl (.cons rfl (.cons rfl (.cons rfl (.cons rfl (.cons ?_ (.nil _)))))))
            rw [hk]
            exact congrArg (AV.int .i64) h2
          | false =>
            have hk := hkid false ⟨fun h => by rw [hls] at h; exact absurd h.2 (by simp), fun h => by cases h⟩
            refine pan 4 [.b false] rfl ?_ ?_
            · (repeat' with_reducible apply AllP_cons) <;> try exact aC
            refine tail _ (.cons rfl (.cons rfl (.cons rfl (.cons rfl (.cons rfl (.cons ?_ (.nil _)))))))
            rw [hk]
            exact congrArg (AV.int .i64) h1
        · have c3 : decide (IntKind.i64.wrap (IntKind.i64.wrap (IntKind.i64.wrap (2 * (i : Int)) + 1) + 1) < (n : Int)) = false := by rw [h2]; exact decide_eq_false (by omega)
          have hk := hkid false ⟨fun h => absurd h.1 h2n, fun h => by cases h⟩
          refine pB [.b false, .b false, .b false] rfl ?_
          refine pan 2 [.b false] rfl ?_ ?_
          · (repeat' with_reducible apply AllP_cons) <;> try exact aC
          refine tail _ (.cons rfl (.cons rfl (.cons rfl (.cons rfl (.cons rfl (.cons ?_ (.nil _)))))))
          rw [hk]
          exact congrArg (AV.int .i64) h1
      case rest =>
        refine pB [] rfl ?_
        refine S_invoke1 (y := .bool (Op.bytesLess (gtx l kd) (gtx l i))) rfl rfl (pqRecv mLess _ _ _ _) rfl (pqLess_ok v kd i l g g' (by omega) (by omega)) rfl rfl ?_
        cases hls : Op.bytesLess (gtx l kd) (gtx l i) with
        | false =>
          rw [hls, if_neg (by simp)] at hup
          refine pB [.b true] rfl ?_
          refine S_ret ⟨_, _, rfl, trivial, ⟨_, rfl⟩, ?_⟩
          rw [← hup]
        | true =>
          rw [hls, if_pos rfl] at hup
          refine pB [.b false] rfl ?_
          refine S_invoke1 (y := .tup []) rfl rfl (pqRecv mSwap _ _ _ _) rfl (pqSwap_ok v i kd l g g' (by omega) (by omega)) rfl rfl ?_
          refine pB [] rfl ?_
          exact S_round (kd, swpX l i kd) (by show n - kd < n - i; omega) ⟨by show kd ≤ n; omega, by rw [swpX_len]; exact hl, f, by show n ≤ kd + f; omega, hup⟩ (.cons rfl (.cons rfl (.cons rfl (.cons rfl (.cons rfl (.nil _)))))) rfl
end Go.Proofs.YtnfalbdnkgaelaaDoor
end
section
set_option linter.unusedVariables false
set_option linter.unusedSimpArgs false
set_option maxRecDepth 20000
set_option maxHeartbeats 1000000
namespace Go.Proofs.YtnfalbdnkgaelaaDoor
open Go Go.Ab
theorem Push_ok (v : Nat) (l : List Tx) (x : Tx) (g' : Option TypeId) (hb : l.length ≤ 100000) : CallOk cx 57 [pqI, .iface 9 (.str x)] (pqB v l none g') (fun e s => e = .ret (.tup []) ∧ s = pqB (v + 1) (pushX l x) none g') :=
  callOk_intro (fun a w => Tryd.call57 a w) Tryd.func57 rfl Tryd.ntmps57 rfl fun B => by
    refine pB [] rfl ?_
    refine S_invoke1 rfl rfl (.val mPush) rfl (pqPush_ok v l x g' (by omega)) rfl rfl ?_
    refine pB [] rfl ?_
    refine S_invoke1 rfl rfl (pqRecv mLen _ _ _ _) rfl (pqLen_ok 0 (v + 1) (l ++ [x]).length _) rfl rfl ?_
    have h1 : IntKind.i64.wrap ((((l ++ [x]).length : Nat) : Int) - 1) = (l.length : Int) := w64 (by simp) (by omega)
    have hl : (l ++ [x]).length = l.length + 1 := by simp
    refine pa [.f (.tup []) (fun _ => pqB (v + 1) (pushX l x) none g')] rfl ?_ ?_
    · (repeat' with_reducible apply AllP_cons) <;> try exact aC
      · show CallOk cx _ [pqI, .int .i64 (IntKind.i64.wrap ((((l ++ [x]).length : Nat) : Int) - 1))] _ _
        rw [h1]
        exact up_ok (v + 1) l.length (l ++ [x]) none g' (by omega) (by omega)
    exact S_nil ⟨_, _, rfl, trivial, rfl, rfl⟩
theorem Pop_ok (v : Nat) (l : List Tx) (g' : Option TypeId) (hl : 0 < l.length) (hb : l.length ≤ 100000) : CallOk cx 59 [pqI] (pqB v l none g') (fun e s => e = .ret (.iface 9 (.str (gtx l 0))) ∧ s = pqB v (popX l) none g') :=
  callOk_intro (fun a w => Tryd.call59 a w) Tryd.func59 rfl Tryd.ntmps59 rfl fun B => by
    have hne : l ≠ [] := fun e => by rw [e] at hl; simp at hl
    have h1 : IntKind.i64.wrap ((l.length : Int) - 1) = ((l.length - 1 : Nat) : Int) := w64 (by omega) (by omega)
    refine pB [] rfl ?_
    refine S_invoke1 rfl rfl (pqRecv mLen _ _ _ _) rfl (pqLen_ok 0 v l.length _) rfl rfl ?_
    refine pB [] rfl ?_
    refine S_invoke1 rfl rfl (pqRecv mSwap _ _ _ _) ?_ (pqSwap_ok v 0 (l.length - 1) l none g' hl (by omega)) rfl rfl ?_
    · show [_, _, AV.int .i64 (IntKind.i64.wrap ((l.length : Int) - 1))] = _
      rw [h1]; rfl
    have hd := downX_len l.length 0 (l.length - 1) (swpX l 0 (l.length - 1))
    rw [swpX_len] at hd
    refine pa [.f .top (fun _ => pqB v (downX l.length 0 (l.length - 1) (swpX l 0 (l.length - 1))) none g')] rfl ?_ ?_
    · (repeat' with_reducible apply AllP_cons) <;> try exact aC
      · show CallOk cx _ [pqI, .int .i64 0, .int .i64 (IntKind.i64.wrap ((l.length : Int) - 1))] _ _
        rw [h1]
        have := down_ok v (l.length - 1) (swpX l 0 (l.length - 1)) none g' (by rw [swpX_len]; omega) (by rw [swpX_len]; omega)
        rw [swpX_len] at this
        exact this.topR (fun o s h => h)
    have hp := (popX_perm hne).2
    have hpx : (downX l.length 0 (l.length - 1) (swpX l 0 (l.length - 1))).take (l.length - 1) = popX l := rfl
    generalize downX l.length 0 (l.length - 1) (swpX l 0 (l.length - 1)) = D at *
    have hpo := pqPop_ok v D g' (by omega) (by omega)
    rw [hd, hp, hpx] at hpo
    refine S_invoke1 rfl rfl (.val mPop) rfl hpo rfl rfl ?_
    refine pB [] rfl ?_
    exact S_ret ⟨_, _, rfl, trivial, rfl, rfl⟩
end Go.Proofs.YtnfalbdnkgaelaaDoor
end
section
set_option linter.unusedVariables false
set_option linter.unusedSimpArgs false
namespace Go.Ab
open Go
section
variable {cx : Cx} {n : Nat} {B : Bs} {k : List AI} {Q : Post} {fr : Fr} {σ : Heap}
theorem Inv.ghosts {r : Rl} {w : World} (g : Tag) : ∀ (m : Nat) {σ : Heap}, Inv cx r σ w → Inv cx r (σ ++ List.replicate m (0, some (.cells [] g))) w ∧ Ext r σ w r (σ ++ List.replicate m (0, some (.cells [] g))) w
  | 0, σ, hi => by
    have : σ ++ List.replicate 0 (0, some (Box.cells [] g)) = σ := by simp
    rw [this]; exact ⟨hi, Ext.refl _ _ _⟩
  | m + 1, σ, hi => by
    obtain ⟨g1, g2⟩ := hi.ghost (σ' := σ ++ [(0, some (.cells [] g))]) (id := σ.length) (ver := 0) (ro := g) (by simp) (fun j hj => by
      rcases Nat.lt_or_ge j σ.length with h | h
      · rw [List.getElem?_append_left h]
      · rw [List.getElem?_eq_none h, List.getElem?_eq_none]
        rw [List.length_append]
        show σ.length + 1 ≤ j
        omega) (fun cur y hc => by rw [List.getElem?_eq_none (Nat.le_refl _)] at hc; cases hc)
    obtain ⟨k1, k2⟩ := Inv.ghosts g m g1
    have e : σ ++ List.replicate (m + 1) (0, some (Box.cells [] g)) = σ ++ [(0, some (.cells [] g))] ++ List.replicate m (0, some (.cells [] g)) := by
      rw [List.append_assoc]; rfl
    rw [e]
    exact ⟨k1, g2.trans k2⟩
theorem S_ghosts {todo : List AI} (g : Tag) (m : Nat) (hT : ∃ c k, todo = .code c :: k ∨ ∃ all l K, todo = .ops all l K :: k) (hk : S cx n B todo Q fr (σ ++ List.replicate m (0, some (.cells [] g)))) : S cx n B todo Q fr σ := by
  obtain ⟨c0, k0, hT⟩ := hT
  rcases hT with rfl | ⟨all, l, K, rfl⟩
  · intro r a w hi hf hd hx
    obtain ⟨q1, q2⟩ := hi.ghosts g m
    exact hk r a w q1 (hf.mono (q2.grow hi)) hd (hx.trans q2)
  · intro r a w hi hf hd hx
    obtain ⟨q1, q2⟩ := hi.ghosts g m
    exact hk r a w q1 (hf.mono (q2.grow hi)) hd (hx.trans q2)
theorem OpSpec.wk {o : Oper} {v v' : AV} {σ' : Heap} (h : OpSpec cx n fr σ o v σ') (hw : ∀ r w x, VRel r w x v → VRel r w x v') : OpSpec cx n fr σ o v' σ' := by
  intro r a w hi hf
  obtain ⟨r', w', x, h1, h2, h3⟩ := h r a w hi hf
  exact ⟨r', w', x, h1, hw _ _ _ h2, h3⟩
theorem nil_ms {r : Rl} {w : World} {x : Value} {id ver off sz : Nat} {fl : Bool} (h : VRel r w x .nils) : VRel r w x (.ms id ver off 0 sz fl) := by
  cases h; exact .ms0
theorem pasn (f : Nat) {k k' : List AI} {fr fr' : Fr} {σ σ' : Heap} {C : List Prop} (hs : List Ht) {hs' : List Ht} (h : runP cx [1000000] n f [] hs k fr σ = ⟨C, k', fr', σ', hs'⟩) (hC : AllP C)
    (hk : S cx n B k' Q fr' σ') : S cx n B k Q fr σ := by
  have hg := runP_sound (M := [1000000]) (cx := cx) (n := n) (B := B) (Q := Q) f [] hs k fr σ
  rw [h] at hg
  exact (hg hC).2 hk
theorem S_spec {all : Array Oper} {o : Oper} {l : List Oper} {K : List Nat} {v : AV} {σ' : Heap} (h : OpSpec cx n fr σ o v σ') (hg : guardA all o K fr = some true) (hd : dstOk n o.dst = true)
    (hk : S cx n B (.ops all l K :: k) Q (setA o.dst v fr) σ') : S cx n B (.ops all (o :: l) K :: k) Q fr σ := S_do hg hd h hk
theorem S_wkC {todo : List AI} {cur : Nat} {cs : List AV} {ty : Option TypeId} {a : AV} (id j : Nat) (b : AV) (h : σ[id]? = some (cur, some (.cells cs ⟨false, ty⟩))) (hj : cs[j]? = some a) (hw : ∀ r w v, VRel r w v a → VRel r w v b) (hb1 : b.one = true)
    (hT : ∃ c k, todo = .code c :: k ∨ ∃ all l K, todo = .ops all l K :: k) (hk : S cx n B todo Q fr (σ.set id (cur, some (.cells (cs.set j b) ⟨false, ty⟩)))) : S cx n B todo Q fr σ := by
  have key : ∀ r w, Inv cx r σ w → Inv cx r (σ.set id (cur, some (.cells (cs.set j b) ⟨false, ty⟩))) w ∧ Ext r σ w r (σ.set id (cur, some (.cells (cs.set j b) ⟨false, ty⟩))) w := by
    intro r w hi
    refine hi.recast h (fun bl o hb => ?_) (fun ro hro => by cases hro; simp at hj)
    obtain ⟨c, t, lo, hi, h1, h2, h3, h4, h5⟩ := hb
    refine ⟨c, t, lo, hi, h1, fun i hil => ?_, fun x hx => ?_, fun i a b c => (by cases (h4 i a b c).1), h5⟩
    · have hil' : i < cs.length := by simpa using hil
      obtain ⟨v, k1, k2⟩ := h2 i hil'
      refine ⟨v, k1, ?_⟩
      rw [List.getElem_set]
      split
      · rename_i hki
        subst hki
        rw [List.getElem?_eq_getElem hil'] at hj
        rw [Option.some.inj hj] at k2
        exact hw _ _ _ k2
      · exact k2
    · rcases List.mem_or_eq_of_mem_set hx with hx | rfl
      · exact h3 x hx
      · exact hb1
  obtain ⟨c, k, hT⟩ := hT
  rcases hT with rfl | ⟨all, l, K, rfl⟩
  · intro r a w hi hf hd hx
    obtain ⟨q1, q2⟩ := key r w hi
    exact hk r a w q1 (hf.mono (q2.grow hi)) hd (hx.trans q2)
  · intro r a w hi hf hd hx
    obtain ⟨q1, q2⟩ := key r w hi
    exact hk r a w q1 (hf.mono (q2.grow hi)) hd (hx.trans q2)
theorem OpSpec.mgetS {o : Oper} {t kt et : TypeId} {m key : Operand} {ok : Bool} {id ver : Nat} {ks : List (List UInt8)} {val : List UInt8 → AV} {sp : Option (List Nat × Nat)} {z : AV} {s : List UInt8} (ho : o.op = .lookup t m key ok) (ht : cx.P.underlying t = some (.map kt et)) (hk : keyFits cx.P kt (.str s) = true)
    (hm : ev cx fr m = .map id ver) (hkey : ev cx fr key = .str s) (hσ : σ[id]? = some (ver, some (.map (mapF ks val) sp))) (hz : zeroV cx.P et = some z) {v : AV} (hv : okV ok (if s ∈ ks then val s else z) (decide (s ∈ ks)) = v) :
    OpSpec cx n fr σ o v σ := by
  subst hv
  have hf := findF0 ks val s
  by_cases h : s ∈ ks
  · have hh : hitF ks val s = some (ks.idxOf s, val s) := if_pos h
    refine OpSpec.map (hitF ks val s) (C := [ver = ver, findK (ev cx fr key) (mapF ks val) 0 = some (hitF ks val s)]) ?_ ⟨rfl, by rw [hkey]; exact hf, trivial⟩
    rw [ho, mapA, ht, hkey]
    simp only [hk, hm, hσ, hh]
    rw [if_pos h, decide_eq_true h]
  · have hh : hitF ks val s = none := if_neg h
    refine OpSpec.map (hitF ks val s) (C := [ver = ver, findK (ev cx fr key) (mapF ks val) 0 = some (hitF ks val s)]) ?_ ⟨rfl, by rw [hkey]; exact hf, trivial⟩
    rw [ho, mapA, ht, hkey]
    simp only [hk, hm, hσ, hh, hz]
    rw [if_neg h, decide_eq_false h]
theorem OpSpec.loadE {o : Oper} {t : TypeId} {a : Operand} {m id ver off : Nat} {cs : List AV} {g : Tag} {x : AV} (ho : o.op = .load t a) (ha : aggT cx.P t = some false) (hm : szOf cx.P t = some m) (hea : ev cx fr a = .eptr id ver off)
    (hσ : σ[id]? = some (ver, some (.cells cs g))) (hx : (cs.drop off)[0]? = some x) : OpSpec cx n fr σ o x σ := by
  intro r ac w hi hf
  refine loadA_run (C := [ver = ver, (cs.drop off)[0]? = some x]) hi hf ?_ ⟨rfl, hx, trivial⟩
  rw [ho]
  simp only [loadA, ha, hm, hea, boxAt, hσ, loadA.loadC]
theorem OpSpec.storeE {o : Oper} {t : TypeId} {a x : Operand} {id ver off : Nat} {cs : List AV} {gT : Option TypeId} {y : AV} (ho : o.op = .store t a x) (hm : szOf cx.P t = some 1) (hea : ev cx fr a = .eptr id ver off) (hx : ev cx fr x = y) (hyc : y.cells = [y]) (hy : y.one = true)
    (hσ : σ[id]? = some (ver, some (.cells cs ⟨false, gT⟩))) (hoff : off + 1 ≤ cs.length) : OpSpec cx n fr σ o (.tup []) (σ.set id (ver, some (.cells (setRange cs off [y]) ⟨false, gT⟩))) := by
  refine OpSpec.store (C := [[y].length = 1, allOne [y] = true, ver = ver, off + 1 ≤ cs.length]) ?_ ⟨rfl, by simp [allOne, hy], rfl, hoff, trivial⟩
  rw [ho]
  simp only [storeA, hm, hea, hσ, hx, hyc]
theorem firstDead_no : ∀ (σ : Heap) (k : Nat), (∀ e ∈ σ, ∃ x, e.2 = some x) → firstDead σ k = none
  | [], _, _ => rfl
  | (v, y) :: r, k, h => by
    obtain ⟨x, hx⟩ := h (v, y) (List.mem_cons_self ..)
    have hx : y = some x := hx
    subst hx
    exact firstDead_no r (k + 1) (fun e he => h e (List.mem_cons_of_mem _ he))
theorem OpSpec.makeE {o : Oper} {t : TypeId} {l c : Operand} {e by_ m : Nat} {z : AV} (ho : o.op = .makeSlice t l c) (hel : elemInfo cx.P t = some (e, 1, by_)) (hz : zeroA cx.P e = some [z]) (hzo : z.one = true) (hl : ev cx fr l = .int .i64 (m : Nat)) (hc : ev cx fr c = .int .i64 (m : Nat)) (ht : tyU8 cx.P e = none)
    (hσ : ∀ e ∈ σ, ∃ x, e.2 = some x) (hb : by_ * m ≤ 281474976710656) (hm : m ≤ 9223372036854775807) : OpSpec cx n fr σ o (.ms σ.length 0 0 m 1 false) (σ ++ [(0, some (.cells (repA m [z]) ⟨false, none⟩))]) := by
  have hb2 : (by_ : Int) * (m : Int) ≤ 281474976710656 := by rw [← Int.natCast_mul]; omega
  refine OpSpec.aop (C := [(0 : Int) ≤ (m : Nat), (m : Int) ≤ (m : Nat), (by_ : Int) * (m : Int) ≤ 281474976710656, (m : Int) ≤ 9223372036854775807]) ?_ ⟨by omega, by omega, hb2, by omega, trivial⟩
  rw [ho]
  show aMake cx.P t (ev cx fr l) (ev cx fr c) σ = _
  rw [hl, hc]
  unfold aMake
  rw [hel]
  simp only [hz, allOne, List.all_cons, List.all_nil, hzo, Bool.and_true, Bool.true_and, Nat.ble_eq_true_of_le (Nat.le_refl 1), cond_true, Int.toNat_natCast, ht]
  unfold allocH
  rw [firstDead_no σ 0 hσ]
theorem OpSpec.appendM {o : Oper} {s x : Operand} {t u : TypeId} {e by_ id ver len : Nat} {st fl : Bool} {cs : List AV} {y : AV} (ho : o.op = .call { callee := .builtin .append, args := #[s, x], argTypes := #[t, u] }) (hel : elemInfo cx.P t = some (e, 1, by_)) (hnt : notInt cx.P u = true)
    (hs : ev cx fr s = .ms id ver 0 len 1 false) (hx : ev cx fr x = .sl st fl 1 [y]) (hy : y.one = true) (hσ : σ[id]? = some (ver, some (.cells cs ⟨false, none⟩))) (hl : len = cs.length) (hb : (len + 1) * by_ ≤ 140737488355328) (hb2 : len + 1 ≤ 9223372036854775807) :
    OpSpec cx n fr σ o (.ms id (ver + 1) 0 (len + 1) 1 false) (σ.set id (ver + 1, some (.cells (cs ++ [y]) ⟨false, none⟩))) := by
  have h1 : ∀ z ∈ flatA 1 [y], z.one = true := by intro z hz; have hz : z ∈ [y] := hz; rw [List.mem_singleton.1 hz]; exact hy
  refine OpSpec.aop (C := [1 = 1, ∀ z ∈ flatA 1 [y], z.one = true] ++ [∀ z ∈ flatA 1 [y], z.one = true, ver = ver, 1 = 1, 0 + len * 1 = cs.length, (len + [y].length) * by_ ≤ 140737488355328, len + [y].length ≤ 9223372036854775807]) ?_ ⟨rfl, h1, h1, rfl, rfl, by omega, hb, hb2, trivial⟩
  rw [ho]
  show aAppend cx.P t u (ev cx fr s) (ev cx fr x) σ = _
  rw [hs, hx]
  unfold aAppend
  rw [hel]
  simp only [hnt, cond_true, aSrc, hσ]
  rfl
end
end Go.Ab
end
section
set_option linter.unusedVariables false
set_option linter.unusedSimpArgs false
set_option maxRecDepth 20000
set_option maxHeartbeats 1000000
namespace Go.Proofs.YtnfalbdnkgaelaaDoor
open Go Go.Ab
def ndV (st : Bool) (nd : Nm → List Nm) (k : Nm) : AV := .sl st false 1 (texts (nd k))
def usV (km : List Nm) (u : Nm → List Nm) (k : Nm) : AV := .ms (7 + km.idxOf k) (u k).length 0 (u k).length 1 false
def usE (l : List Nm) : Nat × Option Box := (l.length, some (.cells (texts l) ⟨false, none⟩))
def usB (km : List Nm) (u : Nm → List Nm) : Heap := km.map fun k => usE (u k)
def wtV (W : Nm → Nat) (k : Nm) : AV := .int .i64 (W k : Nat)
structure OrS where
  kw : List Nm
  W : Nm → Nat
  ku : List Nm
  u : Nm → List Nm
  v : Nat
  l : List Tx
def orG (st : Bool) (v0 v1 : Nat) (km sm : List Nm) (nd : Nm → List Nm) (sp : Option (List Nat × Nat)) (g' : Option TypeId) (it : Nat × Option Box) (wb ub : Option Box) (v : Nat) (l : List Tx) (U : Heap) : Heap :=
  (v0, mapBx km (ndV st nd)) :: (v1, some (.map (mapF sm fun _ => .bool true) sp)) :: (0, wb) :: (0, ub) :: (0, some (.cells [.ms 5 v 0 l.length 1 false] ⟨false, g'⟩)) :: (v, some (.cells (texts l) ⟨false, none⟩)) :: it :: U
def orH (st : Bool) (v0 v1 : Nat) (km sm : List Nm) (nd : Nm → List Nm) (sp : Option (List Nat × Nat)) (g' : Option TypeId) (it : Nat × Option Box) (x : OrS) : Heap :=
  orG st v0 v1 km sm nd sp g' it (mapBx x.kw (wtV x.W)) (mapBx x.ku (usV km x.u)) x.v x.l (usB km x.u)
structure OrOk (km : List Nm) (x : OrS) : Prop where
  kw : x.kw.Nodup
  W0 : ∀ k, k ∉ x.kw → x.W k = 0
  ku : x.ku.Nodup
  u0 : ∀ k, k ∉ x.ku → x.u k = []
  hp : HpX x.l.length x.l
def updN {β : Type} (W : Nm → β) (n : Nm) (m : β) : Nm → β := fun k => if k = n then m else W k
theorem updF_wt (W : Nm → Nat) (n : Nm) (m : Nat) : updF (wtV W) n (.int .i64 (m : Nat)) = wtV (updN W n m) := by
  funext k; unfold updF wtV updN; split <;> rfl
theorem updF_us (km : List Nm) (u : Nm → List Nm) (k : Nm) (l : List Nm) : updF (usV km u) k (.ms (7 + km.idxOf k) l.length 0 l.length 1 false) = usV km (updN u k l) := by
  funext y; unfold updF usV updN
  by_cases h : y = k
  · subst h; rw [if_pos rfl, if_pos rfl]
  · rw [if_neg h, if_neg h]
theorem usB_get {km : List Nm} {k : Nm} (u : Nm → List Nm) (h : k ∈ km) : (usB km u)[km.idxOf k]? = some (usE (u k)) := by
  have hlt : km.idxOf k < km.length := List.idxOf_lt_length_of_mem h
  unfold usB
  rw [List.getElem?_map, List.getElem?_eq_getElem hlt, List.getElem_idxOf hlt]; rfl
theorem usB_set {km : List Nm} (hn : km.Nodup) {k : Nm} (u : Nm → List Nm) (l : List Nm) (h : k ∈ km) : (usB km u).set (km.idxOf k) (usE l) = usB km (updN u k l) := by
  have hlt : km.idxOf k < km.length := List.idxOf_lt_length_of_mem h
  have hat : km[km.idxOf k] = k := List.getElem_idxOf hlt
  unfold usB
  apply List.ext_getElem
  · simp
  · intro i h1 h2
    have hi : i < km.length := by simpa using h1
    rw [List.getElem_set, List.getElem_map, List.getElem_map]
    unfold updN
    by_cases hi2 : km.idxOf k = i
    · subst hi2
      rw [if_pos rfl, hat, if_pos rfl]
    · rw [if_neg hi2, if_neg]
      intro e
      exact hi2 ((List.getElem_inj hn).1 (hat.trans e.symm))
theorem OrOk.put {km : List Nm} {x : OrS} (h : OrOk km x) (n : Nm) (m : Nat) : OrOk km { x with kw := addK x.kw n, W := updN x.W n m } := by
  refine ⟨?_, fun k hk => ?_, h.ku, h.u0, h.hp⟩
  · show (addK x.kw n).Nodup
    unfold addK
    split
    · exact h.kw
    · rename_i hn
      exact List.nodup_append.2 ⟨h.kw, by simp, fun a ha c hc e => by rw [List.mem_singleton.1 hc] at e; exact hn (e ▸ ha)⟩
  · show updN x.W n m k = 0
    have hk : k ∉ addK x.kw n := hk
    unfold addK at hk
    unfold updN
    split at hk
    · rename_i hn
      rw [if_neg (fun e : k = n => hk (e ▸ hn))]; exact h.W0 k hk
    · rw [if_neg (fun e => hk (by simp [e]))]
      exact h.W0 k (fun hh => hk (List.mem_append_left _ hh))
theorem OrOk.putU {km : List Nm} {x : OrS} (h : OrOk km x) (n : Nm) (l : List Nm) : OrOk km { x with ku := addK x.ku n, u := updN x.u n l } := by
  refine ⟨h.kw, h.W0, ?_, fun k hk => ?_, h.hp⟩
  · show (addK x.ku n).Nodup
    unfold addK
    split
    · exact h.ku
    · rename_i hn
      exact List.nodup_append.2 ⟨h.ku, by simp, fun a ha c hc e => by rw [List.mem_singleton.1 hc] at e; exact hn (e ▸ ha)⟩
  · show updN x.u n l k = []
    have hk : k ∉ addK x.ku n := hk
    unfold addK at hk
    unfold updN
    split at hk
    · rename_i hn
      rw [if_neg (fun e : k = n => hk (e ▸ hn))]; exact h.u0 k hk
    · rw [if_neg (fun e => hk (by simp [e]))]
      exact h.u0 k (fun hh => hk (List.mem_append_left _ hh))
theorem or_at {st : Bool} {v0 v1 : Nat} {km sm : List Nm} {nd : Nm → List Nm} {sp : Option (List Nat × Nat)} {g' : Option TypeId} {it : Nat × Option Box} {wb ub : Option Box} {v : Nat} {l : List Tx} {U : Heap} (i : Nat) :
    (orG st v0 v1 km sm nd sp g' it wb ub v l U)[7 + i]? = U[i]? := by rw [Nat.add_comm]; rfl
theorem or_set {st : Bool} {v0 v1 : Nat} {km sm : List Nm} {nd : Nm → List Nm} {sp : Option (List Nat × Nat)} {g' : Option TypeId} {it : Nat × Option Box} {wb ub : Option Box} {v : Nat} {l : List Tx} {U : Heap} (i : Nat) (e : Nat × Option Box) :
    (orG st v0 v1 km sm nd sp g' it wb ub v l U).set (7 + i) e = orG st v0 v1 km sm nd sp g' it wb ub v l (U.set i e) := by rw [Nat.add_comm]; rfl
theorem usE_snoc (l : List Nm) (n : Nm) : usE (l ++ [n]) = (l.length + 1, some (.cells (texts l ++ [.str n]) ⟨false, none⟩)) := by unfold usE texts; simp
theorem pq_frame {f : FuncId} {rest : List AV} {v v' : Nat} {l l' : List Tx} {g' : Option TypeId} {r : AV} (h : CallOk cx f (pqI :: rest) (pqB v l none g') (fun e s => e = .ret r ∧ s = pqB v' l' none g')) (hrest : ∀ a ∈ rest, Free false a) (hr : Free false r)
    (st : Bool) (v0 v1 : Nat) (km sm : List Nm) (nd : Nm → List Nm) (sp : Option (List Nat × Nat)) (it : Nat × Option Box) (wb ub : Option Box) (U : Heap) :
    CallOk cx f (.iface 79 (.ptr 4 0 0) :: rest) (orG st v0 v1 km sm nd sp g' it wb ub v l U) (fun e s => e = .ret r ∧ s = orG st v0 v1 km sm nd sp g' it wb ub v' l' U) := by
  have hfree : ∀ (l : List Tx), ∀ a ∈ texts l, Free false a := fun l a ha => by
    obtain ⟨t, _, rfl⟩ := List.mem_map.1 ha; exact .str
  have hx : ∀ (v : Nat) (l : List Tx), RnH ([5, 4] ++ newIds (orG st v0 v1 km sm nd sp g' it wb ub v l U).length 0) (pqB v l none g') [(v, some (.cells (texts l) ⟨false, none⟩)), (0, some (.cells [.ms 5 v 0 l.length 1 false] ⟨false, g'⟩))] := fun v l =>
    .cons (.live (.cells (Rns.free (hfree l)))) (.cons (.live (.cells (.cons (.ms rfl) (.nil _)))) (.nil _))
  have := CallOk.frame (σ := orG st v0 v1 km sm nd sp g' it wb ub v l U) (es := [(v', some (.cells (texts l') ⟨false, none⟩)), (0, some (.cells [.ms 5 v' 0 l'.length 1 false] ⟨false, g'⟩))]) (args' := .iface 79 (.ptr 4 0 0) :: rest) (x' := r) [5, 4] h (.cons (.iface (.ptr rfl)) (Rns.free hrest))
    ⟨by decide, fun j hj => ?_, rfl, fun i j e hi he => ?_⟩ (hx v' l') (.free hr)
  · refine this.mono fun o s ⟨h1, h2⟩ => ⟨h1, h2.trans ?_⟩
    show ((((orG st v0 v1 km sm nd sp g' it wb ub v l U).set 5 _).set 4 _) ++ []) = _
    rw [List.append_nil]; rfl
  · show j < U.length + 7
    simp only [List.mem_cons, List.not_mem_nil, or_false] at hj
    omega
  · match i, hi, he with
    | 0, hi, he =>
      cases hi; cases he
      exact ⟨_, rfl, .live (.cells (Rns.free (hfree l)))⟩
    | 1, hi, he =>
      cases hi; cases he
      exact ⟨_, rfl, .live (.cells (.cons (.ms rfl) (.nil _)))⟩
    | i + 2, hi, he => cases hi
end Go.Proofs.YtnfalbdnkgaelaaDoor
end
