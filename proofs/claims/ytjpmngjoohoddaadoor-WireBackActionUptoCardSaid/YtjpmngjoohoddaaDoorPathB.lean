/-
  Paths: the program's IsPath, the reference's Parts and IsPath.
-/
import Derived.Test.YtjpmngjoohoddaaDoorPathA
import Derived.Test.YtjpmngjoohoddaaDoorNameB
set_option linter.unusedVariables false
set_option linter.unusedSimpArgs false
set_option maxRecDepth 20000
namespace Go.Proofs.YtjpmngjoohoddaaDoor
open Go Go.Ab

def isPathB (s : List UInt8) : Bool := (splitB 47 s).all isName && decide (s.length ≤ 100)

theorem all_take {α : Type} {p : α → Bool} {l : List α} {i : Nat} (h : i < l.length) (ha : (l.take i).all p = true) (hp : p l[i] = true) : (l.take (i + 1)).all p = true := by
  rw [List.take_succ_eq_append_getElem h, List.all_append, ha]; simp [hp]
theorem all_not {α : Type} {p : α → Bool} {l : List α} {i : Nat} (h : i < l.length) (hp : p l[i] = false) : l.all p = false := by
  rw [List.all_eq_false]; exact ⟨_, List.getElem_mem h, by simp [hp]⟩

theorem isPath_ok (s : List UInt8) (hs : s.length ≤ 1099511627776) : Calc cx 8 [.str s] (.bool (isPathB s)) :=
  pure_intro (fun a w => Tryd.call8 a w) Tryd.func8 rfl Tryd.ntmps8 rfl .bool fun B => by
    obtain ⟨l, hl⟩ : ∃ l, l = splitB 47 s := ⟨_, rfl⟩
    have hlen : l.length ≤ s.length + 1 := by rw [hl, split_len]; have : s.count 47 ≤ s.length := List.count_le_length; omega
    have htl : (texts l).length = l.length := by simp [texts]
    have hSp := Split_ok s 47 hs
    rw [← hl] at hSp
    refine ab 1000 rfl trivial ?_
    refine S_pure rfl rfl rfl hSp (.cons (.refl .str) (.cons (.refl .str) (.nil _))) ?_
    refine ab 1000 rfl trivial ?_
    refine S_while (α := Nat) (fun i => [(0, .str s), (6, .sl true false 1 (texts l)), (7, .int .i64 ((texts l).length : Nat)), (8, .int .i64 (i : Nat))]) (fun _ => []) (fun i => i ≤ l.length ∧ (l.take i).all isName = true) (fun i => l.length - i) 0
      ⟨Nat.zero_le _, rfl⟩ (.cons rfl (.cons rfl (.cons rfl (.cons rfl (.nil _))))) rfl ?_
    rintro i ⟨hi, hN⟩
    refine ab 1000 rfl trivial ?_
    refine S_dec rfl (fun hil => ?_) (fun hil => ?_)
    · have hil : i < l.length := by have : ((i : Nat) : Int) < ((texts l).length : Nat) := hil; omega
      refine ab 1000 rfl trivial ?_
      refine S_index (.str l[i]) rfl rfl rfl ⟨rfl, by omega, by rw [Int.toNat_natCast]; simp [texts, List.getElem?_eq_getElem hil], trivial⟩ ?_
      refine ab 1000 rfl trivial ?_
      have hp : l[i].length ≤ s.length := split_part (c := 47) _ (by rw [← hl]; exact List.getElem_mem hil)
      refine S_pure rfl rfl rfl (isName_ok l[i] (by omega)) (.cons (.refl .str) (.nil _)) ?_
      refine ab 1000 rfl trivial ?_
      refine S_cond rfl (fun h => ?_) (fun h => ?_)
      · have h : isName l[i] = false := by simpa using (show (!isName l[i]) = true from h)
        refine ab 1000 rfl trivial ?_
        refine S_retc .bool rfl trivial ?_
        rw [isPathB, ← hl, all_not hil h]; rfl
      · have h : isName l[i] = true := by simpa using (show (!isName l[i]) = false from h)
        refine ab 1000 rfl trivial ?_
        exact S_round (i + 1) (by show l.length - (i + 1) < l.length - i; omega) ⟨hil, all_take hil hN h⟩ (.cons rfl (.cons rfl (.cons rfl (.cons (ai64 rfl (by omega)) (.nil _))))) rfl
    · have hil : i = l.length := by have : ¬ ((i : Nat) : Int) < ((texts l).length : Nat) := hil; omega
      rw [hil, List.take_length] at hN
      refine ab 1000 rfl trivial ?_
      refine S_retc .bool rfl trivial ?_
      rw [isPathB, ← hl, hN, Bool.true_and]
      show AV.bool (decide ((s.length : Int) ≤ 100)) = _
      exact congrArg AV.bool (decide_eq_decide.2 (by omega))

/-- A part goes on. -/
def glue (x : List UInt8) : List (List UInt8) → List (List UInt8)
  | [] => [x]
  | p :: ps => (x ++ p) :: ps

theorem glue_cons {c x : UInt8} {r : List UInt8} (last : List UInt8) (h : x ≠ c) : glue last (splitB c (x :: r)) = glue (last ++ [x]) (splitB c r) := by
  rw [splitB, if_neg h]
  cases hq : splitB c r with
  | nil => simp [glue]
  | cons p ps => simp [glue]

theorem glue_nil (l : List (List UInt8)) (h : l ≠ []) : glue [] l = l := by
  cases l with
  | nil => exact absurd rfl h
  | cons p ps => rfl

theorem Parts_ok (s : List UInt8) (hs : s.length ≤ 1099511627776) : Calc cx 22 [.str s] (.sl true false 1 (texts (splitB 47 s))) :=
  pure_intro (fun a w => Tryd.call22 a w) Tryd.func22 rfl Tryd.ntmps22 rfl (.sl (fun _ => rfl) (texts_any _)) fun B => by
    refine go (M := [5]) 1000 rfl trivial ?_
    refine S_unfull (t := 3) rfl ⟨_, _, .inl rfl⟩ ?_
    refine S_while (α := Nat × List (List UInt8) × List UInt8 × Nat) (fun (i, pre, last, u) => [(0, .str s), (3, .ms 0 u 0 (pre.length + 1) 1 false), (4, .int .i64 (i : Nat))])
      (fun (i, pre, last, u) => [(u, some (.cells (texts (pre ++ [last])) ⟨false, none⟩))])
      (fun (i, pre, last, u) => i ≤ s.length ∧ pre.length ≤ i ∧ last.length ≤ i ∧ pre ++ glue last (splitB 47 (s.drop i)) = splitB 47 s) (fun (i, pre, last, u) => s.length - i) (0, [], [], 0)
      ⟨Nat.zero_le _, Nat.le_refl _, Nat.le_refl _, by simp [glue_nil _ (splitB_ne 47 s)]⟩ (.cons rfl (.cons rfl (.cons rfl (.nil _)))) rfl ?_
    rintro ⟨i, pre, last, u⟩ ⟨h1, h2, h3, h4⟩
    have h1 : i ≤ s.length := h1
    have h2 : pre.length ≤ i := h2
    have h3 : last.length ≤ i := h3
    have hpl : (texts (pre ++ [last])).length = pre.length + 1 := by simp [texts]
    refine ab 1000 rfl trivial ?_
    refine S_dec rfl (fun hil => ?_) (fun hil => ?_)
    · have hil : i < s.length := by omega
      have hd : s.drop i = s[i] :: s.drop (i + 1) := List.drop_eq_getElem_cons hil
      have hgd : s.getD i 0 = s[i] := by simp [List.getD, hil]
      refine ab 1000 rfl ⟨by omega, by omega, trivial⟩ ?_
      refine S_beq rfl (fun hc => ?_) (fun hc => ?_)
      · have hc : s[i] = 47 := by
          have h' : (((s.getD ((i : Nat) : Int).toNat 0).toNat : Nat) : Int) = 47 := hc
          rw [Int.toNat_natCast, hgd] at h'
          exact UInt8.toNat_inj.1 (by have : s[i].toNat = 47 := by omega
                                      rw [this]; rfl)
        refine ab 1000 rfl ⟨?_, ?_, ?_, rfl, rfl, allOne_mem (cs := [.str []]) rfl, allOne_mem (cs := [.str []]) rfl, rfl, trivial⟩ ?_
        · show pre.length + 1 + 1 ≤ 9223372036854775807; omega
        · show (pre.length + 1 + 1) * 16 ≤ 140737488355328; omega
        · show 0 + (pre.length + 1) * 1 = (texts (pre ++ [last])).length; omega
        refine S_round (i + 1, pre ++ [last], [], u + 1) (by show s.length - (i + 1) < s.length - i; omega) ⟨hil, by simp; omega, Nat.zero_le _, ?_⟩ (.cons rfl (.cons ?_ (.cons (ai64 rfl (by omega)) (.nil _)))) ?_
        · rw [← h4, hd, hc]
          show (pre ++ [last]) ++ glue [] (splitB 47 (s.drop (i + 1))) = pre ++ glue last (splitB 47 (47 :: s.drop (i + 1)))
          rw [glue_nil _ (splitB_ne _ _), splitB, if_pos rfl]
          simp [glue]
        · show AV.ms 0 (u + 1) 0 (pre.length + 1 + 1) 1 false = .ms 0 (u + 1) 0 ((pre ++ [last]).length + 1) 1 false
          simp
        · show [(u + 1, some (Box.cells (texts (pre ++ [last]) ++ [.str []]) ⟨false, none⟩))] = [(u + 1, some (Box.cells (texts ((pre ++ [last]) ++ [[]])) ⟨false, none⟩))]
          simp [texts]
      · have hc : s[i] ≠ 47 := by
          intro e
          have h' : (((s.getD ((i : Nat) : Int).toNat 0).toNat : Nat) : Int) ≠ 47 := hc
          rw [Int.toNat_natCast, hgd, e] at h'
          exact h' rfl
        have hw1 : IntKind.i64.wrap (((pre.length + 1 : Nat) : Int) - 1) = ((pre.length : Nat) : Int) := w64 (by omega) (by omega)
        refine ab 1000 rfl trivial ?_
        have hw2 : IntKind.i64.wrap ((i : Int) + 1) = ((i + 1 : Nat) : Int) := w64 (by omega) (by omega)
        have hcut : cutL (some ((i : Nat) : Int)) (some (IntKind.i64.wrap ((i : Int) + 1))) s = [s[i]] := by
          rw [hw2]
          show (s.take ((i + 1 : Nat) : Int).toNat).drop ((i : Nat) : Int).toNat = _
          rw [Int.toNat_natCast, Int.toNat_natCast, List.take_succ_eq_append_getElem hil, List.drop_left' (by simp; omega)]
        have hld : ((texts (pre ++ [last])).drop (offN 0 (mulN (IntKind.i64.wrap (((pre.length + 1 : Nat) : Int) - 1)).toNat 1)))[0]? = some (.str last) := by
          rw [offN_eq, mulN_eq, hw1, Int.toNat_natCast]
          simp [texts]
        refine S_draw 12 [] [.top, .str last] rfl rfl rfl rfl ⟨rfl, rfl, rfl, rfl, rfl, by rw [hw1]; omega, by rw [hw1]; omega, rfl, hld, rfl, rfl, rfl, rfl, rfl, by omega, by rw [hw2]; omega, by rw [hw2]; omega, rfl, by rw [hcut]; simp; omega, trivial⟩ ?_
        refine ab 1000 rfl trivial ?_
        refine S_index .top rfl rfl rfl ⟨rfl, by rw [hw1]; omega, by rw [hw1]; omega, trivial⟩ ?_
        refine S_store rfl rfl rfl ⟨rfl, rfl, rfl, ?_, trivial⟩ ?_
        · show offN 0 (mulN (IntKind.i64.wrap (((pre.length + 1 : Nat) : Int) - 1)).toNat 1) + 1 ≤ (texts (pre ++ [last])).length
          rw [offN_eq, mulN_eq, hw1, Int.toNat_natCast]; omega
        refine ab 1000 rfl trivial ?_
        refine S_round (i + 1, pre, last ++ [s[i]], u) (by show s.length - (i + 1) < s.length - i; omega) ⟨hil, by omega, by simp; omega, by rw [← h4, hd, glue_cons last hc]⟩ (.cons rfl (.cons rfl (.cons (ai64 rfl (by omega)) (.nil _)))) ?_
        show [(u, some (Box.cells (setRange (texts (pre ++ [last])) (offN 0 (mulN (IntKind.i64.wrap (((pre.length + 1 : Nat) : Int) - 1)).toNat 1)) [.str (last ++ cutL (some ((i : Nat) : Int)) (some (IntKind.i64.wrap ((i : Int) + 1))) s)]) ⟨false, none⟩))] = [(u, some (Box.cells (texts (pre ++ [last ++ [s[i]]])) ⟨false, none⟩))]
        rw [hcut, offN_eq, mulN_eq, hw1, Int.toNat_natCast, Nat.zero_add, Nat.mul_one]
        have := set_at (texts pre) (AV.str (last ++ [s[i]])) (.str last) []
        rw [show (texts pre).length = pre.length by simp [texts]] at this
        show [(u, some (Box.cells (List.set (texts (pre ++ [last])) pre.length (.str (last ++ [s[i]]))) _))] = _
        rw [show texts (pre ++ [last]) = texts pre ++ [.str last] by simp [texts], this]
        simp [texts]
    · have hil : i = s.length := by omega
      rw [hil, List.drop_length] at h4
      refine ab 1000 rfl trivial ?_
      refine S_ret ⟨_, _, rfl, trivial, _, rfl, ?_⟩
      rw [← h4]
      simp only [splitB, glue, List.append_nil]
      exact .ms1 rfl (texts_one _) (by simp [texts]) (texts_any _)

theorem IsPath_ok (s : List UInt8) (hs : s.length ≤ 9223372036854775807) : Calc cx 9 [.str s] (.bool (isPathB s)) :=
  pure_intro (fun a w => Tryd.call9 a w) Tryd.func9 rfl Tryd.ntmps9 rfl .bool fun B => by
    obtain ⟨l, hl⟩ : ∃ l, l = splitB 47 s := ⟨_, rfl⟩
    have hlen : l.length ≤ s.length + 1 := by rw [hl, split_len]; have : s.count 47 ≤ s.length := List.count_le_length; omega
    have htl : (texts l).length = l.length := by simp [texts]
    refine ab 1000 rfl trivial ?_
    refine S_dec rfl (fun h => ?_) (fun h => ?_)
    · refine ab 1000 rfl trivial ?_
      refine S_retc .bool rfl trivial ?_
      show AV.bool false = .bool ((splitB 47 s).all isName && decide (s.length ≤ 100))
      rw [decide_eq_false (show ¬ s.length ≤ 100 by omega), Bool.and_false]
    have h100 : s.length ≤ 100 := by omega
    have hSp := Parts_ok s (by omega)
    rw [← hl] at hSp
    refine ab 1000 rfl trivial ?_
    refine S_pure rfl rfl rfl hSp (.cons (.refl .str) (.nil _)) ?_
    refine ab 1000 rfl trivial ?_
    refine S_while (α := Nat) (fun i => [(3, .sl true false 1 (texts l)), (4, .int .i64 (i : Nat))]) (fun _ => []) (fun i => i ≤ l.length ∧ (l.take i).all isName = true) (fun i => l.length - i) 0
      ⟨Nat.zero_le _, rfl⟩ (.cons rfl (.cons rfl (.nil _))) rfl ?_
    rintro i ⟨hi, hN⟩
    refine ab 1000 rfl trivial ?_
    refine S_dec rfl (fun hil => ?_) (fun hil => ?_)
    · have hil : i < l.length := by have : ((i : Nat) : Int) < ((texts l).length : Nat) := hil; omega
      refine ab 1000 rfl trivial ?_
      refine S_index (.str l[i]) rfl rfl rfl ⟨rfl, by omega, by rw [Int.toNat_natCast]; simp [texts, List.getElem?_eq_getElem hil], trivial⟩ ?_
      refine ab 1000 rfl trivial ?_
      have hp : l[i].length ≤ s.length := split_part (c := 47) _ (by rw [← hl]; exact List.getElem_mem hil)
      refine S_pure rfl rfl rfl (IsName_ok l[i] (by omega)) (.cons (.refl .str) (.nil _)) ?_
      refine ab 1000 rfl trivial ?_
      refine S_cond rfl (fun h => ?_) (fun h => ?_)
      · have h : isName l[i] = false := by simpa using (show (!isName l[i]) = true from h)
        refine ab 1000 rfl trivial ?_
        refine S_retc .bool rfl trivial ?_
        rw [isPathB, ← hl, all_not hil h]; rfl
      · have h : isName l[i] = true := by simpa using (show (!isName l[i]) = false from h)
        refine ab 1000 rfl trivial ?_
        exact S_round (i + 1) (by show l.length - (i + 1) < l.length - i; omega) ⟨hil, all_take hil hN h⟩ (.cons rfl (.cons (ai64 rfl (by omega)) (.nil _))) rfl
    · have hil : i = l.length := by have : ¬ ((i : Nat) : Int) < ((texts l).length : Nat) := hil; omega
      rw [hil, List.take_length] at hN
      refine ab 1000 rfl trivial ?_
      refine S_retc .bool rfl trivial ?_
      rw [isPathB, ← hl, hN, Bool.true_and, decide_eq_true h100]; rfl

end Go.Proofs.YtjpmngjoohoddaaDoor
