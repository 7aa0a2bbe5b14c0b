/-
  Actions: which may be packed, and as what text: the reference.
-/
import Derived.Test.YtjpmngjoohoddaaDoorPathB
import Derived.Test.YtjpmngjoohoddaaDoorNodeA
import Derived.Test.YtjpmngjoohoddaaDoorWireG
import Derived.Test.YtjpmngjoohoddaaDoorRefC
import Derived.Test.YtjpmngjoohoddaaDoorRefN
import Derived.Test.YtjpmngjoohoddaaDoorAbZb
set_option linter.unusedVariables false
set_option linter.unusedSimpArgs false
set_option maxRecDepth 20000
namespace Go.Proofs.YtjpmngjoohoddaaDoor
open Go Go.Ab

structure ActV where
  cmd : List (List UInt8)
  inp : List UInt8
  outs : List (List UInt8)
  fuel : Int

def actAV (st : Bool) (a : ActV) : AV := .agg [.sl st false 1 (texts a.cmd), .str a.inp, .sl st false 1 (texts a.outs), .int .i64 a.fuel]

theorem actAV_free {st st' : Bool} (h : st' = true → st = true) (a : ActV) : Free st' (actAV st a) := .agg (by
  intro x hx; simp at hx; rcases hx with rfl | rfl | rfl | rfl
  · exact .sl h (texts_any _)
  · exact .str
  · exact .sl h (texts_any _)
  · exact .int)

def isNumB (n : Int) : Bool := decide (0 ≤ n) && decide (n ≤ 9007199254740991)

/-- What is wrong with an action. -/
def actE (a : ActV) : Nat :=
  if checkL a.cmd 60 ≠ 0 ∨ 60 < a.outs.length then 2
  else if isDig a.inp = false then 1
  else if a.outs.all isPathB = false then 1
  else if riseB a.outs = false then 6
  else if isNumB a.fuel = false then 3 else 0

def packA (a : ActV) : List UInt8 := packTs a.cmd ++ packT a.inp ++ packTs a.outs ++ packN 9 a.fuel.toNat

structure ActOk (a : ActV) : Prop where
  cmd : a.cmd.length ≤ 1099511627776
  inp : a.inp.length ≤ 1099511627776
  outs : a.outs.length ≤ 1099511627776
  out : ∀ s ∈ a.outs, s.length ≤ 1099511627776

theorem avS_texts (l : List (List UInt8)) : l.length ≤ avS (texts l) ∧ ∀ s ∈ l, s.length ≤ avS (texts l) := by
  refine ⟨?_, fun s hs => ?_⟩
  · have := avS_len (texts l); simpa [texts] using this
  · have : avB (.str s) + 1 ≤ avS (texts l) := avS_mem (by simp [texts, hs])
    simp only [avB] at this; omega

theorem actOk_of {st : Bool} {a : ActV} {k : Nat} (h : avB (actAV st a) ≤ k) (hk : k ≤ 1099511627776) : ActOk a := by
  obtain ⟨c1, c2⟩ := avS_texts a.cmd
  obtain ⟨o1, o2⟩ := avS_texts a.outs
  have h : avB (AV.agg [.sl st false 1 (texts a.cmd), .str a.inp, .sl st false 1 (texts a.outs), .int .i64 a.fuel]) ≤ k := h
  simp only [avB, avC] at h
  exact ⟨by omega, by omega, by omega, fun s hs => by have := o2 s hs; omega⟩

theorem CheckAction_ok {st : Bool} (a : ActV) (ha : ActOk a) : Calc cx 11 [actAV st a] (.int .i64 (actE a : Nat)) :=
  pure_intro (fun a w => Tryd.call11 a w) Tryd.func11 rfl Tryd.ntmps11 rfl .int fun B => by
    obtain ⟨cmd, inp, outs, fuel⟩ := a
    obtain ⟨ha1, ha2, ha3, ha4⟩ := ha
    simp only at ha1 ha2 ha3 ha4
    have lend : ∀ (σ : Heap) (x : List (List UInt8)), Frz false σ (.sl st false 1 (texts x)) (.sl st false 1 (texts x)) := fun σ x => .refl (.sl (fun h => by cases h) (texts_any x))
    obtain ⟨H, hH⟩ : ∃ H : Heap, H = [(0, some (.cells [.sl st false 1 (texts cmd), .str inp, .sl st false 1 (texts outs), .int .i64 fuel] ⟨false, some 26⟩))] := ⟨_, rfl⟩
    refine ab 1000 rfl ⟨rfl, trivial⟩ ?_
    refine S_pure rfl rfl rfl (CheckList_ok (st := st) (fl := false) cmd 60 (by omega)) (.cons (lend _ _) (.cons (.refl .int) (.nil _))) ?_
    refine ab 1000 rfl trivial ?_
    refine S_split 6 (fun fr σ => Weak fr [(1, .ptr 0 0 0), (13, .bool (decide (checkL cmd 60 ≠ 0 ∨ 60 < outs.length)))] ∧ σ = H) ?_ ?_
    · refine S_guard rfl rfl rfl rfl (fun h => ?_) (fun h => ?_)
      · have h : checkL cmd 60 ≠ 0 := by
          have h' : (((checkL cmd 60 : Nat) : Int) != 0) = true := h
          have : ((checkL cmd 60 : Nat) : Int) ≠ 0 := by simpa using h'
          omega
        refine ab 1000 rfl trivial ?_
        exact S_inv ⟨.cons rfl (.cons (by show AV.bool true = _; rw [decide_eq_true (.inl h)]) (.nil _)), hH.symm⟩
      · have h : checkL cmd 60 = 0 := by
          have h' : (((checkL cmd 60 : Nat) : Int) != 0) = false := h
          have : ((checkL cmd 60 : Nat) : Int) = 0 := by simpa using h'
          omega
        refine ab 1000 rfl ⟨rfl, trivial⟩ ?_
        refine S_inv ⟨.cons rfl (.cons ?_ (.nil _)), hH.symm⟩
        show AV.bool (decide (((texts outs).length : Int) > 60)) = _
        have htl : (texts outs).length = outs.length := by simp [texts]
        exact congrArg AV.bool (decide_eq_decide.2 ⟨fun h => .inr (by omega), fun h2 => by rcases h2 with h2 | h2; exact absurd h h2; omega⟩)
    rintro fr σ ⟨hw, rfl⟩
    refine S_opsW hw ?_
    rw [hH]
    have htl : (texts outs).length = outs.length := by simp [texts]
    refine ab 1000 rfl trivial ?_
    refine S_dec rfl (fun h1 => ?_) (fun h1 => ?_)
    · refine ab 1000 rfl trivial ?_
      refine S_retc .int rfl trivial ?_
      rw [actE, if_pos h1]; rfl
    refine ab 1000 rfl ⟨rfl, trivial⟩ ?_
    refine S_pure rfl rfl rfl (IsDigest_ok inp (by omega)) (.cons (.refl .str) (.nil _)) ?_
    refine ab 1000 rfl trivial ?_
    refine S_cond rfl (fun h2 => ?_) (fun h2 => ?_)
    · have h2 : isDig inp = false := by simpa using (show (!isDig inp) = true from h2)
      refine ab 1000 rfl trivial ?_
      refine S_retc .int rfl trivial ?_
      rw [actE, if_neg h1, if_pos h2]; rfl
    have h2 : isDig inp = true := by simpa using (show (!isDig inp) = false from h2)
    refine ab 1000 rfl trivial ?_
    refine S_while (α := Nat) (fun i => [(1, .ptr 0 0 0), (3, .int .i64 (i : Nat))]) (fun _ => [(0, some (.cells [.sl st false 1 (texts cmd), .str inp, .sl st false 1 (texts outs), .int .i64 fuel] ⟨false, some 26⟩))]) (fun i => i ≤ outs.length ∧ (outs.take i).all isPathB = true) (fun i => outs.length - i) 0
      ⟨Nat.zero_le _, rfl⟩ (.cons rfl (.cons rfl (.nil _))) rfl ?_
    rintro i ⟨hi, hN⟩
    refine ab 1000 rfl ⟨rfl, trivial⟩ ?_
    refine S_dec rfl (fun hil => ?_) (fun hil => ?_)
    · have hil : i < outs.length := by have : ((i : Nat) : Int) < ((texts outs).length : Nat) := hil; omega
      refine ab 1000 rfl ⟨rfl, trivial⟩ ?_
      refine S_index (.str outs[i]) rfl rfl rfl ⟨rfl, by omega, by rw [Int.toNat_natCast]; simp [texts, List.getElem?_eq_getElem hil], trivial⟩ ?_
      refine ab 1000 rfl trivial ?_
      refine S_pure rfl rfl rfl (IsPath_ok outs[i] (by have := ha4 _ (List.getElem_mem hil); omega)) (.cons (.refl .str) (.nil _)) ?_
      refine ab 1000 rfl trivial ?_
      refine S_cond rfl (fun h => ?_) (fun h => ?_)
      · have h : isPathB outs[i] = false := by simpa using (show (!isPathB outs[i]) = true from h)
        refine ab 1000 rfl trivial ?_
        refine S_retc .int rfl trivial ?_
        rw [actE, if_neg h1, if_neg (by rw [h2]; decide), if_pos (all_not hil h)]; rfl
      · have h : isPathB outs[i] = true := by simpa using (show (!isPathB outs[i]) = false from h)
        refine ab 1000 rfl trivial ?_
        exact S_round (i + 1) (by show outs.length - (i + 1) < outs.length - i; omega) ⟨hil, all_take hil hN h⟩ (.cons rfl (.cons (ai64 rfl (by omega)) (.nil _))) rfl
    · have hil : i = outs.length := by have : ¬ ((i : Nat) : Int) < ((texts outs).length : Nat) := hil; omega
      rw [hil, List.take_length] at hN
      refine ab 1000 rfl ⟨rfl, trivial⟩ ?_
      refine S_pure rfl rfl rfl (Rise_ok (st := st) (fl := false) outs (by omega)) (.cons (lend _ _) (.nil _)) ?_
      refine ab 1000 rfl trivial ?_
      refine S_cond rfl (fun h3 => ?_) (fun h3 => ?_)
      · have h3 : riseB outs = false := by simpa using (show (!riseB outs) = true from h3)
        refine ab 1000 rfl trivial ?_
        refine S_retc .int rfl trivial ?_
        rw [actE, if_neg h1, if_neg (by rw [h2]; decide), if_neg (by rw [hN]; decide), if_pos h3]; rfl
      have h3 : riseB outs = true := by simpa using (show (!riseB outs) = false from h3)
      refine ab 1000 rfl ⟨rfl, trivial⟩ ?_
      refine S_pure rfl rfl rfl (IsNumber_ok fuel) (.cons (.refl .int) (.nil _)) ?_
      refine ab 1000 rfl trivial ?_
      refine S_cond rfl (fun h4 => ?_) (fun h4 => ?_)
      · have h4 : isNumB fuel = false := by simpa using (show (!isNumB fuel) = true from h4)
        refine ab 1000 rfl trivial ?_
        refine S_retc .int rfl trivial ?_
        rw [actE, if_neg h1, if_neg (by rw [h2]; decide), if_neg (by rw [hN]; decide), if_neg (by rw [h3]; decide), if_pos h4]; rfl
      · have h4 : isNumB fuel = true := by simpa using (show (!isNumB fuel) = false from h4)
        refine ab 1000 rfl trivial ?_
        refine S_retc .int rfl trivial ?_
        rw [actE, if_neg h1, if_neg (by rw [h2]; decide), if_neg (by rw [hN]; decide), if_neg (by rw [h3]; decide), if_neg (by rw [h4]; decide)]; rfl

/-- An action that may be packed. -/
structure ActFit (a : ActV) : Prop where
  cmd : a.cmd.length ≤ 60
  long : ∀ s ∈ a.cmd, s.length ≤ 100000
  inp : a.inp.length = 64
  outs : a.outs.length ≤ 60
  out : ∀ s ∈ a.outs, s.length ≤ 100
  fuel : ∃ m : Nat, a.fuel = m ∧ m ≤ 9007199254740991

theorem isPathB_len {s : List UInt8} (h : isPathB s = true) : s.length ≤ 100 := by
  simp only [isPathB, Bool.and_eq_true, decide_eq_true_eq] at h; exact h.2

theorem actE_fit {a : ActV} (h : actE a = 0) : ActFit a := by
  unfold actE at h
  by_cases h1 : checkL a.cmd 60 ≠ 0 ∨ 60 < a.outs.length
  · rw [if_pos h1] at h; cases h
  rw [if_neg h1] at h
  cases h2 : isDig a.inp with
  | false => rw [h2, if_pos rfl] at h; cases h
  | true =>
  rw [h2, if_neg (by decide)] at h
  cases h3 : a.outs.all isPathB with
  | false => rw [h3, if_pos rfl] at h; cases h
  | true =>
  rw [h3, if_neg (by decide)] at h
  cases h4 : riseB a.outs with
  | false => rw [h4, if_pos rfl] at h; cases h
  | true =>
  rw [h4, if_neg (by decide)] at h
  cases h5 : isNumB a.fuel with
  | false => rw [h5, if_pos rfl] at h; cases h
  | true =>
  have hc : checkL a.cmd 60 = 0 := Classical.byContradiction fun h => h1 (.inl h)
  unfold checkL at hc
  split at hc
  · cases hc
  rename_i hc1
  split at hc
  · cases hc
  rename_i hc2
  simp only [isNumB, Bool.and_eq_true, decide_eq_true_eq] at h5
  obtain ⟨m, hm⟩ := Int.eq_ofNat_of_zero_le h5.1
  refine ⟨by omega, fun s hs => ?_, ?_, by omega, fun s hs => isPathB_len (List.all_eq_true.1 h3 s hs), m, hm, by omega⟩
  · rcases Nat.lt_or_ge 100000 s.length with h | h
    · exact absurd (List.any_eq_true.2 ⟨s, hs, by simpa using h⟩) hc2
    · exact h
  · simp only [isDig, Bool.and_eq_true, beq_iff_eq] at h2; exact h2.2

end Go.Proofs.YtjpmngjoohoddaaDoor
