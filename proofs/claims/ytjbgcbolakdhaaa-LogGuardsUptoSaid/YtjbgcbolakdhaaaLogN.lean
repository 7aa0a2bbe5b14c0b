/-
  The law LogCuts.
-/
import Derived.Test.YtjbgcbolakdhaaaLogM
import Derived.Test.YtjbgcbolakdhaaaRefZ
set_option linter.unusedVariables false
set_option linter.unusedSimpArgs false
set_option maxRecDepth 20000
namespace Go.Proofs.Ytjbgcbolakdhaaa
open Go Go.Ab

theorem readN_app : ∀ (a b : List UInt8) (i n : Nat), (readN a i n).2.2 = 0 → readN (a ++ b) i n = readN a i n
  | [], b, i, n, h => by simp [readN] at h
  | c :: r, b, i, n, h => by
    rw [List.cons_append]
    unfold readN at h ⊢
    split
    · rfl
    · rename_i hi
      rw [if_neg hi] at h
      simp only at h ⊢
      split
      · rename_i h1
        rw [if_pos h1] at h
        exact readN_app r b _ _ h
      · rfl

/-- A piece of an entry is none. -/
theorem nextL_cut (s r q : List UInt8) (hs : s.length ≤ 100000) (he : r ++ q = entryOf s) (hq : q ≠ []) : (nextL r).2.2 = false := by
  cases r with
  | nil => rfl
  | cons c r =>
    by_cases hc : c.toNat ≠ 76
    · simp only [nextL, if_pos hc]
    · by_cases hx : (readN r 0 0).2.2 ≠ 0 ∨ 100000 < (readN r 0 0).1 ∨ (c :: r).length < 1 + (readN r 0 0).2.1 + (readN r 0 0).1 + 4
      · simp only [nextL, if_neg hc, if_pos hx]
      · exfalso
        simp only [not_or, ne_eq, Decidable.not_not] at hx
        obtain ⟨h1, h2, h3⟩ := hx
        have hen : entryOf s = 76 :: (packN 9 s.length ++ (s ++ le4 (sumOf s))) := by simp [entryOf]
        rw [hen, List.cons_append] at he
        have htl : r ++ q = packN 9 s.length ++ (s ++ le4 (sumOf s)) := (List.cons.inj he).2
        have hr := readN_app r q 0 0 h1
        rw [htl, readN_of_pack s.length _ (by omega)] at hr
        have e1 : (readN r 0 0).1 = s.length := by rw [← hr]
        have e2 : (readN r 0 0).2.1 = (packN 9 s.length).length := by rw [← hr]
        have hlen := congrArg List.length htl
        have hl4 : (le4 (sumOf s)).length = 4 := rfl
        have hqp : 0 < q.length := List.length_pos_iff.2 hq
        simp only [List.length_append, List.length_cons] at hlen h3
        omega

/-- Where the entries end. -/
def endsOf (l : List (List UInt8)) (i : Nat) : Nat := (entriesOf (l.take i)).length

theorem endsOf_le (l : List (List UInt8)) (i j : Nat) (h : i ≤ j) : endsOf l i ≤ endsOf l j := by
  unfold endsOf
  have : l.take j = l.take i ++ (l.take j).drop i := by
    conv => lhs; rw [← List.take_append_drop i (l.take j)]
    rw [List.take_take, Nat.min_eq_left h]
  rw [this]
  simp only [entriesOf, List.flatMap_append, List.length_append]; omega

theorem entriesOf_split (l : List (List UInt8)) (i : Nat) : entriesOf l = entriesOf (l.take i) ++ entriesOf (l.drop i) := by
  conv => lhs; rw [← List.take_append_drop i l]
  simp only [entriesOf, List.flatMap_append]

/-- A log that is cut off has the entries that were whole. -/
theorem allOf_cut (l : List (List UInt8)) (hs : ∀ s ∈ l, s.length ≤ 100000) (cut whole : Nat) (hw : whole ≤ l.length) (h1 : endsOf l whole ≤ cut) (h2 : ∀ j, whole < j → j ≤ l.length → cut < endsOf l j) (hc : cut ≤ (entriesOf l).length) :
    allOf ((entriesOf l).take cut) = (l.take whole, ((entriesOf l).take cut).drop (endsOf l whole)) := by
  have hsp := entriesOf_split l whole
  have htk : (entriesOf l).take cut = entriesOf (l.take whole) ++ (entriesOf (l.drop whole)).take (cut - endsOf l whole) := by
    rw [hsp, List.take_append]
    rw [List.take_of_length_le (by exact h1)]
    rfl
  have hno : (nextL ((entriesOf (l.drop whole)).take (cut - endsOf l whole))).2.2 = false := by
    rcases Nat.eq_or_lt_of_le hw with he | hlt
    · subst he
      rw [List.drop_length]
      simp [entriesOf]; rfl
    · have hd : l.drop whole = l[whole] :: l.drop (whole + 1) := List.drop_eq_getElem_cons hlt
      have hn := h2 (whole + 1) (by omega) hlt
      have hend : endsOf l (whole + 1) = endsOf l whole + (entryOf l[whole]).length := by
        unfold endsOf
        rw [List.take_succ_eq_append_getElem hlt]
        simp only [entriesOf, List.flatMap_append, List.flatMap_cons, List.flatMap_nil, List.append_nil, List.length_append]
      have hk : cut - endsOf l whole < (entryOf l[whole]).length := by omega
      rw [hd]
      have : entriesOf (l[whole] :: l.drop (whole + 1)) = entryOf l[whole] ++ entriesOf (l.drop (whole + 1)) := rfl
      rw [this, List.take_append_of_le_length (by omega)]
      refine nextL_cut l[whole] _ ((entryOf l[whole]).drop (cut - endsOf l whole)) (hs _ (List.getElem_mem hlt)) (List.take_append_drop _ _) ?_
      intro h
      have := congrArg List.length h
      simp at this; omega
  have hrest : allOf ((entriesOf (l.drop whole)).take (cut - endsOf l whole)) = ([], (entriesOf (l.drop whole)).take (cut - endsOf l whole)) := by
    unfold allOf
    generalize (entriesOf (l.drop whole)).take (cut - endsOf l whole) = r at *
    cases r.length <;> simp [readAll, hno]
  rw [htk, allOf_entries (l.take whole) _ (fun s h => hs s (List.mem_of_mem_take h)), hrest]
  simp only [List.append_nil, Prod.mk.injEq, true_and]
  exact (List.drop_left' rfl).symm

def intsN (l : List Nat) : List AV := l.map fun n => .int .i64 (n : Nat)

theorem texts_take (l : List (List UInt8)) (i : Nat) : (texts l).take i = texts (l.take i) := by simp [texts]

theorem LogCuts_ok {st fl : Bool} (l : List (List UInt8)) (c : Int) (hl : l.length ≤ 1048576) (hc : -9223372036854775808 ≤ c ∧ c ≤ 9223372036854775807) : Calc cx 4 [.sl st fl 1 (texts l), .int .i64 c] (.bool true) :=
  pure_intro (fun a w => Try.call4 a w) Try.func4 rfl Try.ntmps4 rfl .bool fun B => by
    have htl : (texts l).length = l.length := by simp [texts]
    refine ab 1000 rfl trivial ?_
    refine S_pure rfl rfl rfl logBegun_ok (.nil _) ?_
    refine ab 1000 rfl trivial ?_
    refine S_cond rfl (fun h => by cases h) (fun _ => ?_)
    refine go (M := [18]) 1000 rfl trivial ?_
    refine S_unfull (t := 6) rfl ⟨_, _, .inl rfl⟩ ?_
    refine S_while (α := Nat × Nat) (fun (i, u) => [(0, .sl st fl 1 (texts l)), (1, .int .i64 c), (5, .str (entriesOf (l.take i))), (6, .ms 0 u 0 (i + 1) 1 false), (7, .int .i64 i)]) (fun (i, u) => [(u, some (.cells (intsN ((List.range (i + 1)).map (endsOf l))) ⟨false, none⟩))])
      (fun (i, u) => i ≤ l.length ∧ ∀ s ∈ l.take i, s.length ≤ 100000) (fun (i, u) => l.length - i) (0, 0)
      ⟨Nat.zero_le _, by simp⟩ (.cons rfl (.cons rfl (.cons rfl (.cons rfl (.cons rfl (.nil _)))))) rfl ?_
    rintro ⟨i, u⟩ ⟨hi, hN⟩
    have hel := entriesOf_length (l.take i) hN
    have htk : (l.take i).length ≤ 1048576 := by simp; omega
    refine ab 1000 rfl trivial ?_
    refine S_dec rfl (fun hlt => ?_) (fun hlt => ?_)
    · have hil : i < l.length := by simp [texts] at hlt; omega
      refine ab 1000 rfl trivial ?_
      refine S_index (.str l[i]) rfl rfl rfl ⟨rfl, by omega, by simp [texts, List.getElem?_eq_getElem hil], trivial⟩ ?_
      refine ab 1000 rfl trivial ?_
      refine S_pure rfl rfl rfl (Append_any (entriesOf (l.take i)) l[i] (by omega)) (.cons (.refl .str) (.cons (.refl .str) (.nil _))) ?_
      by_cases hbig : 100000 < l[i].length
      · rw [if_pos hbig, if_pos hbig]
        refine ab 1000 rfl trivial ?_
        refine S_cond rfl (fun _ => ?_) (fun hh => by cases hh)
        refine ab 1000 rfl trivial ?_
        exact S_retc .bool rfl trivial rfl
      · rw [if_neg hbig, if_neg hbig]
        have hN' : ∀ s ∈ l.take (i + 1), s.length ≤ 100000 := by
          intro s hs
          rw [List.take_succ_eq_append_getElem hil] at hs
          rcases List.mem_append.1 hs with hs | hs
          · exact hN s hs
          · simp at hs; subst hs; omega
        have hen : entriesOf (l.take i) ++ entryOf l[i] = entriesOf (l.take (i + 1)) := by
          rw [List.take_succ_eq_append_getElem hil]
          simp only [entriesOf, List.flatMap_append, List.flatMap_cons, List.flatMap_nil, List.append_nil]
        rw [hen]
        have hel' := entriesOf_length (l.take (i + 1)) hN'
        have htk' : (l.take (i + 1)).length ≤ 1048576 := by simp; omega
        refine ab 1000 rfl trivial ?_
        refine S_cond rfl (fun hh => by cases hh) (fun _ => ?_)
        refine ab 1000 rfl trivial ?_
        have hR := Read_ok (entriesOf (l.take (i + 1))) (by omega)
        have hall := allOf_entries (l.take (i + 1)) [] hN'
        rw [show allOf ([] : List UInt8) = ([], []) from rfl] at hall
        unfold allOf at hall
        simp only [List.append_nil] at hall
        rw [hall] at hR
        simp only [List.length_nil, Nat.sub_zero] at hR
        refine S_pure rfl rfl rfl hR (.cons (.refl .str) (.nil _)) ?_
        have hw1 : IntKind.i64.wrap ((i : Int) + 1) = ((i + 1 : Nat) : Int) := w64 rfl (by omega)
        refine ab 1000 rfl ⟨rfl, by rw [hw1, htl]; omega, by rw [hw1]; omega, trivial⟩ ?_
        refine S_pure rfl rfl rfl (SameTexts_ok (st := true) (st' := st) (fl := false) (fl' := false) (l.take (i + 1)) (l.take (i + 1)) (by omega) (by omega)) (.cons (.refl (.sl (fun h => by cases h) (texts_any _))) (.cons ?_ (.nil _))) ?_
        · show Frz false _ (.sl st false 1 ((texts l).take (IntKind.i64.wrap ((i : Int) + 1)).toNat)) _
          rw [hw1, Int.toNat_natCast, texts_take]
          exact .refl (.sl (fun h => by cases h) (texts_any _))
        rw [show (l.take (i + 1) == l.take (i + 1)) = true by simp]
        refine ab 1000 rfl trivial ?_
        refine S_guard rfl rfl rfl rfl (fun hh => by cases hh) (fun _ => ?_)
        refine ab 1000 rfl trivial ?_
        refine S_cond rfl (fun hh => ?_) (fun _ => ?_)
        · have : ((((entriesOf (l.take (i + 1))).length : Nat) : Int) != (((entriesOf (l.take (i + 1))).length : Nat) : Int)) = true := hh
          simp at this
        refine ab 1000 rfl ⟨?_, ?_, ?_, rfl, rfl, allOne_mem (cs := [.int .i64 _]) rfl, allOne_mem (cs := [.int .i64 _]) rfl, rfl, trivial⟩ ?_
        · show i + 1 + 1 ≤ 9223372036854775807; omega
        · show (i + 1 + 1) * 8 ≤ 140737488355328; omega
        · show 0 + (i + 1) * 1 = (intsN ((List.range (i + 1)).map (endsOf l))).length; simp [intsN]
        refine S_round (i + 1, u + 1) (by show l.length - (i + 1) < l.length - i; omega) ⟨hil, hN'⟩ (.cons rfl (.cons rfl (.cons rfl (.cons rfl (.cons (ai64 rfl (by omega)) (.nil _)))))) ?_
        show [(u + 1, some (Box.cells (intsN ((List.range (i + 1)).map (endsOf l)) ++ [.int .i64 ((entriesOf (l.take (i + 1))).length : Nat)]) ⟨false, none⟩))] = [(u + 1, some (Box.cells (intsN ((List.range (i + 1 + 1)).map (endsOf l))) ⟨false, none⟩))]
        rw [List.range_succ (n := i + 1)]
        simp [intsN, endsOf]
    · have hil : i = l.length := by simp [texts] at hlt; omega
      subst hil
      rw [List.take_length] at hN hel
      have hws : IntKind.i64.wrap (((entriesOf l).length : Int) + 1) = (((entriesOf l).length + 1 : Nat) : Int) := w64 rfl (by omega)
      refine ab 1000 rfl trivial ?_
      refine S_pure rfl rfl rfl (choose_ok c ((entriesOf l).length + 1) hc (by omega) (by omega)) (.cons (.refl .int) (.cons ?_ (.nil _))) ?_
      · show Frz false _ (.int .i64 (IntKind.i64.wrap (((entriesOf (l.take l.length)).length : Int) + 1))) _
        rw [List.take_length, hws]; exact .refl .int
      have hcl := chooseN_lt c (show 0 < (entriesOf l).length + 1 by omega)
      generalize chooseN c ((entriesOf l).length + 1) = cut at *
      refine ab 1000 rfl trivial ?_
      refine S_while (α := Nat × Nat) (fun (j, w) => [(0, .sl st fl 1 (texts l)), (1, .int .i64 cut), (5, .str (entriesOf l)), (6, .ms 0 u 0 (l.length + 1) 1 false), (12, .int .i64 w), (13, .int .i64 j)]) (fun (j, w) => [(u, some (.cells (intsN ((List.range (l.length + 1)).map (endsOf l))) ⟨false, none⟩))])
        (fun (j, w) => j ≤ l.length + 1 ∧ w ≤ l.length ∧ endsOf l w ≤ cut ∧ ∀ m, w < m → m < j → cut < endsOf l m) (fun (j, w) => l.length + 1 - j) (0, 0)
        ⟨Nat.zero_le _, Nat.zero_le _, by simp [endsOf, entriesOf], fun m _ h => by omega⟩ (.cons rfl (.cons rfl (.cons (congrArg AV.str (congrArg entriesOf List.take_length)) (.cons rfl (.cons rfl (.cons rfl (.nil _))))))) rfl ?_
      rintro ⟨j, w⟩ ⟨hj, hw, he, hm⟩
      have hget : ∀ m, m < l.length + 1 → (intsN ((List.range (l.length + 1)).map (endsOf l)))[m]? = some (.int .i64 (endsOf l m : Nat)) := by
        intro m hm
        simp [intsN, hm]
      refine ab 1000 rfl trivial ?_
      refine S_dec rfl (fun hlt => ?_) (fun hlt => ?_)
      · have hjl : j < l.length + 1 := by omega
        refine ab 1000 rfl trivial ?_
        refine S_index (.int .i64 (endsOf l j : Nat)) rfl rfl rfl ⟨rfl, by omega, by omega, trivial⟩ ?_
        refine S_load (.int .i64 (endsOf l j : Nat)) rfl rfl rfl ⟨rfl, ?_, trivial⟩ ?_
        · show ((intsN ((List.range (l.length + 1)).map (endsOf l))).drop (offN 0 (mulN (j : Int).toNat 1)))[0]? = _
          simp only [offN, mulN, Int.toNat_natCast, List.getElem?_drop, Nat.add_zero]
          exact hget j hjl
        refine ab 1000 rfl trivial ?_
        refine S_dec rfl (fun h => ?_) (fun h => ?_)
        · refine ab 1000 rfl trivial ?_
          exact S_round (j + 1, j) (by show l.length + 1 - (j + 1) < l.length + 1 - j; omega) ⟨hjl, by omega, by omega, fun m h1 h2 => by omega⟩ (.cons rfl (.cons rfl (.cons rfl (.cons rfl (.cons rfl (.cons (ai64 rfl (by omega)) (.nil _))))))) rfl
        · refine ab 1000 rfl trivial ?_
          refine S_round (j + 1, w) (by show l.length + 1 - (j + 1) < l.length + 1 - j; omega) ⟨hjl, hw, he, fun m h1 h2 => ?_⟩ (.cons rfl (.cons rfl (.cons rfl (.cons rfl (.cons rfl (.cons (ai64 rfl (by omega)) (.nil _))))))) rfl
          rcases Nat.lt_or_ge m j with h3 | h3
          · exact hm m h1 h3
          · obtain rfl : m = j := by omega
            omega
      · have hjl : j = l.length + 1 := by omega
        have hcut := allOf_cut l hN cut w hw he (fun m h1 h2 => hm m h1 (by omega)) (by omega)
        have hR := Read_ok ((entriesOf l).take cut) (by simp; omega)
        unfold allOf at hcut
        rw [hcut] at hR
        refine ab 1000 rfl ⟨by omega, by omega, trivial⟩ ?_
        refine S_pure rfl rfl rfl hR (.cons ?_ (.nil _)) ?_
        · show Frz false _ (.str ((entriesOf l).take (cut : Int).toNat)) _
          rw [Int.toNat_natCast]; exact .refl .str
        refine ab 1000 rfl ⟨rfl, by rw [htl]; omega, by omega, trivial⟩ ?_
        refine S_pure rfl rfl rfl (SameTexts_ok (st := true) (st' := st) (fl := false) (fl' := false) (l.take w) (l.take w) (by simp; omega) (by simp; omega)) (.cons (.refl (.sl (fun h => by cases h) (texts_any _))) (.cons ?_ (.nil _))) ?_
        · show Frz false _ (.sl st false 1 ((texts l).take (w : Int).toNat)) _
          rw [Int.toNat_natCast, texts_take]
          exact .refl (.sl (fun h => by cases h) (texts_any _))
        rw [show (l.take w == l.take w) = true by simp]
        refine ab 1000 rfl trivial ?_
        refine S_guard rfl rfl rfl rfl (fun _ => ?_) (fun hh => by cases hh)
        refine ab 1000 rfl trivial ?_
        refine S_index (.int .i64 (endsOf l w : Nat)) rfl rfl rfl ⟨rfl, by omega, by omega, trivial⟩ ?_
        refine S_load (.int .i64 (endsOf l w : Nat)) rfl rfl rfl ⟨rfl, ?_, trivial⟩ ?_
        · show ((intsN ((List.range (l.length + 1)).map (endsOf l))).drop (offN 0 (mulN (w : Int).toNat 1)))[0]? = _
          simp only [offN, mulN, Int.toNat_natCast, List.getElem?_drop, Nat.add_zero]
          exact hget w (by omega)
        refine ab 1000 rfl trivial ?_
        refine S_retc .bool rfl trivial ?_
        show AV.bool (((((entriesOf l).take cut).length - (((entriesOf l).take cut).drop (endsOf l w)).length : Nat) : Int) == (endsOf l w : Nat)) = _
        rw [show ((entriesOf l).take cut).length - (((entriesOf l).take cut).drop (endsOf l w)).length = endsOf l w by simp; omega]
        simp

end Go.Proofs.Ytjbgcbolakdhaaa
