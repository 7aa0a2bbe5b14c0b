/-
  The law LogGuards.
-/
import Derived.Test.YtjbgcbolakdhaaaLogP
set_option linter.unusedVariables false
set_option linter.unusedSimpArgs false
set_option maxRecDepth 20000
namespace Go.Proofs.Ytjbgcbolakdhaaa
open Go Go.Ab

theorem badOf_set (s : List UInt8) (k : Nat) (hk : k < s.length) (b : UInt8) : (entryOf s).set ((entryOf s).length - 4 - s.length + k) b = badOf s (s.set k b) := by
  have hl4 : (le4 (sumOf s)).length = 4 := rfl
  have hen : entryOf s = (76 :: packN 9 s.length) ++ (s ++ le4 (sumOf s)) := by simp [entryOf]
  have hlen : (entryOf s).length = (76 :: packN 9 s.length).length + s.length + 4 := by
    rw [hen, List.length_append, List.length_append, hl4]; omega
  rw [show (entryOf s).length - 4 - s.length + k = (76 :: packN 9 s.length).length + k by omega, hen]
  rw [List.set_append_right _ _ (by omega), Nat.add_sub_cancel_left, List.set_append_left _ _ hk]
  rfl

theorem flat_set (l : List (List UInt8)) (w : Nat) (hw : w < l.length) (b : List UInt8) : ((l.map entryOf).set w b).flatten = entriesOf (l.take w) ++ (b ++ ((l.map entryOf).drop (w + 1)).flatten) := by
  rw [List.set_eq_take_append_cons_drop, if_pos (by simpa using hw)]
  have h : ∀ m : List (List UInt8), (m.map entryOf).flatten = entriesOf m := fun m => by simp [entriesOf, List.flatMap]
  rw [List.flatten_append, List.flatten_cons, ← List.map_take, h]

theorem LogGuards_ok {st fl : Bool} (l : List (List UInt8)) (c1 c2 c3 : Int) (hl : l.length ≤ 1048576) (h1 : -9223372036854775808 ≤ c1 ∧ c1 ≤ 9223372036854775807) (h2 : -9223372036854775808 ≤ c2 ∧ c2 ≤ 9223372036854775807)
    (h3 : -9223372036854775808 ≤ c3 ∧ c3 ≤ 9223372036854775807) : Calc cx 5 [.sl st fl 1 (texts l), .int .i64 c1, .int .i64 c2, .int .i64 c3] (.bool true) :=
  pure_intro (fun a w => Try.call5 a w) Try.func5 rfl Try.ntmps5 rfl .bool fun B => by
    have htl : (texts l).length = l.length := by simp [texts]
    refine ab 1000 rfl trivial ?_
    refine S_pure rfl rfl rfl logBegun_ok (.nil _) ?_
    refine ab 1000 rfl trivial ?_
    refine S_guard rfl rfl rfl rfl (fun h => by cases h) (fun _ => ?_)
    refine ab 1000 rfl trivial ?_
    refine S_beq rfl (fun h0 => ?_) (fun h0 => ?_)
    · refine ab 1000 rfl trivial ?_
      refine S_pure rfl rfl rfl logBegun_ok (.nil _) ?_
      refine ab 1000 rfl trivial ?_
      exact S_retc .bool rfl trivial rfl
    have hpos : 0 < l.length := by omega
    refine ab 1000 rfl trivial ?_
    refine S_pure rfl rfl rfl (choose_ok c1 l.length h1 hpos (by omega)) (.cons (.refl .int) (.cons ?_ (.nil _))) ?_
    · show Frz false _ (.int .i64 ((texts l).length : Nat)) _
      rw [htl]; exact .refl .int
    have hw := chooseN_lt c1 hpos
    generalize chooseN c1 l.length = w at *
    refine ab 1000 rfl trivial ?_
    refine S_index (.str l[w]) rfl rfl rfl ⟨rfl, by omega, by simp [texts, List.getElem?_eq_getElem hw], trivial⟩ ?_
    refine ab 1000 rfl trivial ?_
    refine S_beq rfl (fun h0 => ?_) (fun h0 => ?_)
    · refine ab 1000 rfl trivial ?_
      exact S_retc .bool rfl trivial rfl
    have hsp : 0 < l[w].length := by omega
    have hk := chooseN_lt c2 hsp
    obtain ⟨k, hkd⟩ : ∃ k, k = chooseN c2 l[w].length := ⟨_, rfl⟩
    rw [← hkd] at hk
    have hr := chooseN_lt c3 (show 0 < 255 by decide)
    obtain ⟨r, hrd⟩ : ∃ r, r = chooseN c3 255 := ⟨_, rfl⟩
    rw [← hrd] at hr
    obtain ⟨nb, hnb⟩ : ∃ nb : UInt8, nb = UInt8.ofNat ((l[w][k].toNat + 1 + r) % 256) := ⟨_, rfl⟩
    have hnbn : nb.toNat = (l[w][k].toNat + 1 + r) % 256 := by rw [hnb, UInt8.toNat_ofNat', Nat.mod_eq_of_lt (by omega)]
    have hne : nb ≠ l[w][k] := by
      intro h
      have h5 := congrArg UInt8.toNat h
      have := l[w][k].toNat_lt
      rw [hnbn] at h5
      omega
    obtain ⟨es, hes⟩ : ∃ es, es = (l.map entryOf).set w (badOf l[w] (l[w].set k nb)) := ⟨_, rfl⟩
    have hesl : es.length = l.length := by rw [hes]; simp
    have hesw : es[w]? = some (badOf l[w] (l[w].set k nb)) := by rw [hes]; simp [hw]
    have heso : ∀ j (hj : j < l.length), j ≠ w → es[j]? = some (entryOf l[j]) := by
      intro j hj hjw
      rw [hes, List.getElem?_set_ne (Ne.symm hjw)]
      simp [hj]
    refine ab 1000 rfl trivial ?_
    refine S_dead ?_ ⟨_, _, .inl rfl⟩
    refine S_while (α := Nat × Nat) (fun (i, v) => [(0, .sl st fl 1 (texts l)), (1, .int .i64 w), (2, .int .i64 c2), (3, .int .i64 c3), (9, .str (es.take i).flatten), (10, .int .i64 i)]) (fun (i, v) => [(v, none)])
      (fun (i, v) => i ≤ l.length ∧ (∀ s ∈ l.take i, s.length ≤ 100000) ∧ (es.take i).flatten.length ≤ 100020 * i) (fun (i, v) => l.length - i) (0, 0)
      ⟨Nat.zero_le _, by simp, by simp⟩ (.cons rfl (.cons rfl (.cons rfl (.cons rfl (.cons rfl (.cons rfl (.nil _))))))) rfl ?_
    rintro ⟨i, v⟩ ⟨hi, hN, hfl⟩
    refine ab 1000 rfl trivial ?_
    refine S_dec rfl (fun hlt => ?_) (fun hlt => ?_)
    · have hil : i < l.length := by simp [texts] at hlt; omega
      refine ab 1000 rfl trivial ?_
      refine S_index (.str l[i]) rfl rfl rfl ⟨rfl, by omega, by simp [texts, List.getElem?_eq_getElem hil], trivial⟩ ?_
      refine ab 1000 rfl trivial ?_
      refine S_pure rfl rfl rfl (Append_any [] l[i] (by decide)) (.cons (.refl .str) (.cons (.refl .str) (.nil _))) ?_
      by_cases hbig : 100000 < l[i].length
      · rw [if_pos hbig, if_pos hbig]
        refine ab 1000 rfl trivial ?_
        refine S_cond rfl (fun _ => ?_) (fun hh => by cases hh)
        refine ab 1000 rfl trivial ?_
        exact S_retc .bool rfl trivial rfl
      rw [if_neg hbig, if_neg hbig, List.nil_append]
      have hN' : ∀ s ∈ l.take (i + 1), s.length ≤ 100000 := by
        intro s hs
        rw [List.take_succ_eq_append_getElem hil] at hs
        rcases List.mem_append.1 hs with hs | hs
        · exact hN s hs
        · simp at hs; subst hs; omega
      have hel : (entryOf l[i]).length ≤ l[i].length + 20 := by
        have := packN_len 9 l[i].length
        simp [entryOf, le4]; omega
      have hstep : ∀ e, es[i]? = some e → (es.take (i + 1)).flatten = (es.take i).flatten ++ e := by
        intro e he
        have hie : i < es.length := by omega
        rw [List.getElem?_eq_getElem hie] at he
        simp only [Option.some.injEq] at he
        rw [List.take_succ_eq_append_getElem hie, he]
        simp
      refine ab 1000 rfl trivial ?_
      refine S_cond rfl (fun hh => by cases hh) (fun _ => ?_)
      refine ab 1000 rfl trivial ?_
      refine S_beq rfl (fun hiw => ?_) (fun hiw => ?_)
      · have hiw : i = w := by omega
        subst hiw
        have hL : (entryOf l[i]).length - 4 - l[i].length + k < (entryOf l[i]).length ∧ 4 ≤ (entryOf l[i]).length ∧ l[i].length ≤ (entryOf l[i]).length - 4 := by
          simp [entryOf, le4]; omega
        have hbs := badOf_set l[i] k hk nb
        have hwk : IntKind.i64.wrap (IntKind.i64.wrap (IntKind.i64.wrap (((entryOf l[i]).length : Int) - 4) - (l[i].length : Int)) + (k : Int)) = (((entryOf l[i]).length - 4 - l[i].length + k : Nat) : Int) := by
          rw [w64 (x := ((entryOf l[i]).length : Int) - 4) (k := (entryOf l[i]).length - 4) (by omega) (by omega)]
          rw [w64 (x := (((entryOf l[i]).length - 4 : Nat) : Int) - (l[i].length : Int)) (k := (entryOf l[i]).length - 4 - l[i].length) (by omega) (by omega)]
          exact w64 (by omega) (by omega)
        refine go (M := [57]) 1000 rfl trivial ?_
        refine S_pure rfl rfl rfl (choose_ok c2 l[i].length h2 hsp (by omega)) (.cons (.refl .int) (.cons (.refl .int) (.nil _))) ?_
        rw [← hkd]
        refine ab 1000 rfl trivial ?_
        have hold : ((entryOf l[i]).map byteAV)[(entryOf l[i]).length - 4 - l[i].length + k]? = some (.int .u8 (l[i][k].toNat : Nat)) := by
          have hl4 : (le4 (sumOf l[i])).length = 4 := rfl
          have hen : entryOf l[i] = (76 :: packN 9 l[i].length) ++ (l[i] ++ le4 (sumOf l[i])) := by simp [entryOf]
          have hlen : (entryOf l[i]).length = (76 :: packN 9 l[i].length).length + l[i].length + 4 := by
            rw [hen, List.length_append, List.length_append, hl4]; omega
          rw [List.getElem?_map, show (entryOf l[i]).length - 4 - l[i].length + k = (76 :: packN 9 l[i].length).length + k by omega, hen]
          rw [List.getElem?_append_right (by omega), Nat.add_sub_cancel_left, List.getElem?_append_left hk, List.getElem?_eq_getElem hk]
          rfl
        generalize hkk : (entryOf l[i]).length - 4 - l[i].length + k = kk at *
        have hr2 := choose_ok c3 255 h3 (by decide) (by decide)
        rw [← hrd] at hr2
        have hoc := l[i][k].toNat_lt
        have hv1 : IntKind.i64.wrap ((l[i][k].toNat : Nat) : Int) = ((l[i][k].toNat : Nat) : Int) := w64 rfl (by omega)
        have hv2 : IntKind.i64.wrap (((l[i][k].toNat : Nat) : Int) + 1) = ((l[i][k].toNat + 1 : Nat) : Int) := w64 rfl (by omega)
        have hv3 : IntKind.i64.wrap (((l[i][k].toNat + 1 : Nat) : Int) + (r : Int)) = ((l[i][k].toNat + 1 + r : Nat) : Int) := w64 rfl (by omega)
        refine S_weak (fr' := [(0, .sl st fl 1 (texts l)), (1, .int .i64 i), (2, .int .i64 c2), (3, .int .i64 c3), (9, .str (es.take i).flatten), (10, .int .i64 i), (11, .str l[i]), (12, .str (entryOf l[i])), (14, .ms 0 (v + 1) 0 (entryOf l[i]).length 1 false), (15, .int .i64 kk)])
          (.cons rfl (.cons rfl (.cons rfl (.cons rfl (.cons rfl (.cons rfl (.cons rfl (.cons rfl (.cons rfl (.cons (congrArg _ hwk) (.nil _))))))))))) ?_
        refine S_draw 14 [] [.top, .int .u8 (l[i][k].toNat : Nat), .int .i64 r, .top] rfl rfl rfl rfl ⟨rfl, rfl, rfl, rfl, rfl, by omega, by omega, rfl, ?_, rfl, rfl, rfl, ⟨_, hr2, .cons (.refl .int) (.cons (.refl .int) (.nil _))⟩, rfl, rfl, by decide, rfl, rfl, by omega, by omega, trivial⟩ ?_
        · show (((entryOf l[i]).map byteAV).drop (offN 0 (mulN (kk : Int).toNat 1)))[0]? = _
          simp only [offN, mulN, Int.toNat_natCast, List.getElem?_drop, Nat.add_zero]
          exact hold
        refine S_store rfl rfl rfl ⟨rfl, rfl, rfl, ?_, trivial⟩ ?_
        · show offN 0 (mulN (kk : Int).toNat 1) + 1 ≤ ((entryOf l[i]).map byteAV).length
          simp [offN, mulN]; omega
        have hnew : AV.int .u8 (IntKind.u8.wrap ((IntKind.i64.wrap (IntKind.i64.wrap (IntKind.i64.wrap ((l[i][k].toNat : Nat) : Int) + 1) + (r : Int))).tmod 256)) = byteAV nb := by
          rw [hv1, hv2, hv3]
          show AV.int .u8 (IntKind.u8.wrap (((l[i][k].toNat + 1 + r) % 256 : Nat) : Int)) = _
          rw [wu8 rfl (by omega), hnb]
          exact byteAV_of rfl (by omega)
        have hcells : ((entryOf l[i]).map byteAV).set kk (byteAV nb) = (badOf l[i] (l[i].set k nb)).map byteAV := by
          rw [← hbs, List.map_set]
        have hbl : (badOf l[i] (l[i].set k nb)).length = (entryOf l[i]).length := by rw [← hbs]; simp
        refine S_heap [(v + 1, some (.cells ((badOf l[i] (l[i].set k nb)).map byteAV) ⟨false, some 5⟩))] ?_ ?_
        · rw [← hcells, ← hnew]
          show [(v + 1, some (Box.cells (setRange ((entryOf l[i]).map byteAV) (offN 0 (mulN (kk : Int).toNat 1)) _) _))] = _
          simp only [offN, mulN, Int.toNat_natCast]
          rfl
        have hsh : (((badOf l[i] (l[i].set k nb)).map byteAV).drop 0).take (entryOf l[i]).length = (badOf l[i] (l[i].set k nb)).map byteAV := by
          rw [List.drop_zero]; exact List.take_of_length_le (by simp [hbl])
        refine ab 6 rfl ⟨by rw [hsh]; exact bytes_isByte _, by simp [hbl], rfl, rfl, trivial⟩ ?_
        refine S_drop (id := 0) rfl ?_ ⟨_, _, .inl rfl⟩
        refine S_weak (fr' := [(0, .sl st fl 1 (texts l)), (1, .int .i64 i), (2, .int .i64 c2), (3, .int .i64 c3), (9, .str (es.take i).flatten), (10, .int .i64 i), (12, .str (badOf l[i] (l[i].set k nb)))])
          (.cons rfl (.cons rfl (.cons rfl (.cons rfl (.cons rfl (.cons rfl (.cons ?_ (.nil _)))))))) ?_
        · show AV.str (((((badOf l[i] (l[i].set k nb)).map byteAV).drop 0).take (entryOf l[i]).length).map Go.Ab.byteOf) = _
          rw [hsh, bytes_of]
        refine ab 1000 rfl ⟨?_, trivial⟩ ?_
        · show (((es.take i).flatten.length + (badOf l[i] (l[i].set k nb)).length : Nat) : Int) ≤ 9223372036854775807
          omega
        refine S_round (i + 1, v + 1) (by show l.length - (i + 1) < l.length - i; omega) ⟨hil, hN', by rw [hstep _ hesw, List.length_append]; omega⟩ (.cons rfl (.cons rfl (.cons rfl (.cons rfl (.cons ?_ (.cons (ai64 rfl (by omega)) (.nil _))))))) rfl
        show AV.str ((es.take i).flatten ++ badOf l[i] (l[i].set k nb)) = .str (es.take (i + 1)).flatten
        rw [hstep _ hesw]
      · have hiw : i ≠ w := by omega
        have he := heso i hil hiw
        refine ab 1000 rfl ⟨?_, trivial⟩ ?_
        · show (((es.take i).flatten.length + (entryOf l[i]).length : Nat) : Int) ≤ 9223372036854775807
          omega
        refine S_round (i + 1, v) (by show l.length - (i + 1) < l.length - i; omega) ⟨hil, hN', by rw [hstep _ he, List.length_append]; omega⟩ (.cons rfl (.cons rfl (.cons rfl (.cons rfl (.cons ?_ (.cons (ai64 rfl (by omega)) (.nil _))))))) rfl
        show AV.str ((es.take i).flatten ++ entryOf l[i]) = .str (es.take (i + 1)).flatten
        rw [hstep _ he]
    · have hil : i = l.length := by simp [texts] at hlt; omega
      have hall : (allOf (es.take i).flatten).1 = l.take w := by
        rw [hil, ← hesl, List.take_length, hes, flat_set l w hw]
        rw [hil, List.take_length] at hN
        refine allOf_bad (l.take w) l[w] (l[w].set k nb) _ (fun s h => hN s (List.mem_of_mem_take h)) (hN _ (List.getElem_mem hw)) (by simp) ?_
        have h6 := sumOf_ne (l[w].take k) (l[w].drop (k + 1)) nb l[w][k] hne
        have e1 : l[w].set k nb = l[w].take k ++ nb :: l[w].drop (k + 1) := by rw [List.set_eq_take_append_cons_drop, if_pos hk]
        have e2 : l[w] = l[w].take k ++ l[w][k] :: l[w].drop (k + 1) := by rw [← List.drop_eq_getElem_cons hk, List.take_append_drop]
        rw [e1]
        exact fun h => h6 (h.trans (congrArg sumOf e2))
      refine ab 1000 rfl trivial ?_
      have hR := Read_ok (es.take i).flatten (by omega)
      unfold allOf at hall
      rw [hall] at hR
      refine S_pure rfl rfl rfl hR (.cons (.refl .str) (.nil _)) ?_
      refine ab 1000 rfl ⟨rfl, by rw [htl]; omega, by omega, trivial⟩ ?_
      refine S_pure rfl rfl rfl (SameTexts_ok (st := true) (st' := st) (fl := false) (fl' := false) (l.take w) (l.take w) (by simp; omega) (by simp; omega)) (.cons (.refl (.sl (fun h => by cases h) (texts_any _))) (.cons ?_ (.nil _))) ?_
      · show Frz false _ (.sl st false 1 ((texts l).take (w : Int).toNat)) _
        rw [Int.toNat_natCast, texts_take]
        exact .refl (.sl (fun h => by cases h) (texts_any _))
      rw [show (l.take w == l.take w) = true by simp]
      refine ab 1000 rfl trivial ?_
      exact S_retc .bool rfl trivial rfl

end Go.Proofs.Ytjbgcbolakdhaaa
