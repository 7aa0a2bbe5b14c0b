/-
  Go's library: which of a text's letters is this one (bytealg.IndexByteString, stringslite, strings.IndexByte), utf8.ValidRune; strings.ContainsRune of the letters '_-.'.
-/
import Derived.Test.YtjpmngjoohoddaaDoorBase
import Derived.Lib.Bytealg
import Derived.Scope
set_option linter.unusedVariables false
set_option linter.unusedSimpArgs false
set_option maxRecDepth 20000
namespace Go.Proofs.YtjpmngjoohoddaaDoor
open Go Go.Ab

section
variable {cx : Cx} {n : Nat} {B : Bs} {k : List AI} {Q : Post} {fr : Fr} {σ : Heap}
/-- A scope whose marks no jump reaches. -/
theorem after_goto {l : Nat} : ∀ k : List AI, after cx n B k Q (.goto l) = Q (.goto l)
  | [] => rfl
  | .code c :: k => after_goto k
  | .blk id :: k => after_goto k
  | .ops all l' K :: k => after_goto k
  | .inv M :: k => after_goto k

theorem S_scope {c : Code} (hQ : ∀ l fr σ, ¬ Q (.goto l) fr σ) (h : S cx n B (.code c :: k) Q fr σ) : S cx n B (.code (.scope c) :: k) Q fr σ := by
  intro r a w hi hf hd hx
  refine wp_scope_straight (wp_mono (h r a w hi hf hd hx) fun e a w hq => ?_)
  obtain ⟨ae, fr', σ', r', hq, he, hi', hf', hd', hx'⟩ := hq
  cases e <;> cases ae <;> first | exact he.elim | exact Lift.mk hq he hi' hf' hd' hx' | exact hQ _ _ _ ((congrFun (congrFun (after_goto k) fr') σ').mp hq)

/-- A call of a library's function that hands back one value. -/
theorem S_ext {all : Array Oper} {o : Oper} {l : List Oper} {K : List Nat} {f : FuncId} {args : List AV} {res : AV}
    (hext : ∀ (r : Rl) (w : World) (vs : Array Value), VRels r w vs args → ∃ v, (callFunc f vs).run cx.P w = .ok (.value v) w ∧ VRel r w v res) (hc : callA cx fr o.op = some (f, args)) (hg : guardA all o K fr = some true)
    (hd : dstOk n o.dst = true) (hk : S cx n B (.ops all l K :: k) Q (setA o.dst res fr) σ) : S cx n B (.ops all (o :: l) K :: k) Q fr σ := by
  refine S_do hg hd (fun r a w hi hf => ?_) hk
  obtain ⟨vs, h1, h2⟩ := callA_go hi hf hc
  obtain ⟨v, h3, h4⟩ := hext r w vs h2
  exact ⟨r, w, v, .inl (by rw [h1, h3]), h4, hi, Ext.refl _ _ _⟩
end

theorem ixb (s : List UInt8) (c : Int) (r : Rl) (w : World) (vs : Array Value) (h : VRels r w vs [.str s, .int .u8 c]) :
    ∃ v, (callFunc 76 vs).run cx.P w = .ok (.value v) w ∧ VRel r w v (.int .i64 (Lib.indexByte s c.toNat.toUInt8)) := by
  obtain ⟨hs, hv⟩ := h
  obtain ⟨x, y, rfl⟩ : ∃ x y, vs = #[x, y] := by
    rcases vs with ⟨l⟩
    match l, hs with
    | [x, y], _ => exact ⟨x, y, rfl⟩
  have h0 := hv 0 (by simp)
  have h1 := hv 1 (by simp)
  simp only [List.getElem_cons_zero, List.getElem_cons_succ] at h0 h1
  have h0 : VRel r w x (.str s) := h0
  have h1 : VRel r w y (.int .u8 c) := h1
  cases h0 with
  | str h => 
    subst h
    cases h1
    refine ⟨_, ?_, .int⟩
    show (callFunc 76 _).run Tryd.prog w = _
    rw [run_callFunc_extern Tryd.func76 rfl rfl rfl (e := Extern.BytealgIndexByte.indexByte) rfl, Lib.run_indexByteString]
    rfl

theorem indexByteS_ok (s : List UInt8) (c : Int) : Calc cx 74 [.str s, .int .u8 c] (.int .i64 (Lib.indexByte s c.toNat.toUInt8)) :=
  pure_intro (fun a w => Tryd.call74 a w) Tryd.func74 rfl Tryd.ntmps74 rfl .int fun B => by
    refine ab 1000 rfl trivial ?_
    refine S_ext (ixb s c) rfl rfl rfl ?_
    refine ab 1000 rfl trivial ?_
    exact S_retc .int rfl trivial rfl

theorem indexByte_ok (s : List UInt8) (c : Int) : Calc cx 68 [.str s, .int .u8 c] (.int .i64 (Lib.indexByte s c.toNat.toUInt8)) :=
  pure_intro (fun a w => Tryd.call68 a w) Tryd.func68 rfl Tryd.ntmps68 rfl .int fun B => by
    refine ab 1000 rfl trivial ?_
    refine S_pure rfl rfl rfl (indexByteS_ok s c) (.cons (.refl .str) (.cons (.refl .int) (.nil _))) ?_
    refine ab 1000 rfl trivial ?_
    exact S_retc .int rfl trivial rfl

theorem validRune_ok (r : Int) : Calc cx 69 [.int .i32 r] (.bool (decide ((0 ≤ r ∧ r < 55296) ∨ (57343 < r ∧ r ≤ 1114111)))) :=
  pure_intro (fun a w => Tryd.call69 a w) Tryd.func69 rfl Tryd.ntmps69 rfl .bool fun B => by
    have yes : ((0 ≤ r ∧ r < 55296) ∨ (57343 < r ∧ r ≤ 1114111)) → AV.bool true = .bool (decide ((0 ≤ r ∧ r < 55296) ∨ (57343 < r ∧ r ≤ 1114111))) := fun h => by rw [decide_eq_true h]
    have no : ¬ ((0 ≤ r ∧ r < 55296) ∨ (57343 < r ∧ r ≤ 1114111)) → AV.bool false = .bool (decide ((0 ≤ r ∧ r < 55296) ∨ (57343 < r ∧ r ≤ 1114111))) := fun h => by rw [decide_eq_false h]
    have second : ∀ (h : ¬ (0 ≤ r ∧ r < 55296)), True := fun _ => trivial
    refine ab 1000 rfl trivial ?_
    refine S_guard rfl rfl rfl rfl (fun h => ?_) (fun h => ?_)
    · have h := of_decide_eq_true h
      refine ab 1000 rfl trivial ?_
      refine S_dec rfl (fun h2 => ?_) (fun h2 => ?_)
      · refine ab 1000 rfl trivial ?_
        exact S_retc .bool rfl trivial (yes (by omega))
      · refine ab 1000 rfl trivial ?_
        refine S_guard rfl rfl rfl rfl (fun h3 => ?_) (fun h3 => ?_)
        · have h3 := of_decide_eq_true h3
          refine ab 1000 rfl trivial ?_
          refine S_dec rfl (fun h4 => ?_) (fun h4 => ?_)
          · refine ab 1000 rfl trivial ?_
            exact S_retc .bool rfl trivial (yes (by omega))
          · refine ab 1000 rfl trivial ?_
            exact S_retc .bool rfl trivial (no (by omega))
        · have h3 := of_decide_eq_false h3
          refine ab 1000 rfl trivial ?_
          refine S_cond rfl (fun h => by cases h) (fun _ => ?_)
          refine ab 1000 rfl trivial ?_
          exact S_retc .bool rfl trivial (no (by omega))
    · have h := of_decide_eq_false h
      refine ab 1000 rfl trivial ?_
      refine S_cond rfl (fun h => by cases h) (fun _ => ?_)
      refine ab 1000 rfl trivial ?_
      refine S_guard rfl rfl rfl rfl (fun h3 => ?_) (fun h3 => ?_)
      · have h3 := of_decide_eq_true h3
        omega
      · refine ab 1000 rfl trivial ?_
        refine S_cond rfl (fun h => by cases h) (fun _ => ?_)
        refine ab 1000 rfl trivial ?_
        exact S_retc .bool rfl trivial (no (by omega))

/-- A rune's letters, behind those of ASCII. -/
theorem enc_last {r : Int} (h0 : 128 ≤ r) (h1 : (0 ≤ r ∧ r < 55296) ∨ (57343 < r ∧ r ≤ 1114111)) :
    ∃ l x, (Utf8.encode r).data.toList = l ++ [x] ∧ 1 ≤ l.length ∧ l.length ≤ 3 ∧ 128 ≤ x.toNat := by
  have hv : Utf8.valid r = true := by
    unfold Utf8.valid
    simp
    omega
  unfold Utf8.encode
  simp only [hv, if_true]
  obtain ⟨m, rfl⟩ := Int.eq_ofNat_of_zero_le (by omega : 0 ≤ r)
  have hb : ∀ z : Nat, z < 64 → 128 ≤ (UInt8.ofNat (128 + z)).toNat := fun z hz => by
    rw [UInt8.toNat_ofNat']; omega
  simp only [Int.toNat_natCast]
  rw [if_neg (by omega)]
  split
  · exact ⟨[_], _, rfl, by simp, by simp, hb _ (Nat.mod_lt _ (by decide))⟩
  · split
    · exact ⟨[_, _], _, rfl, by simp, by simp, hb _ (Nat.mod_lt _ (by decide))⟩
    · exact ⟨[_, _, _], _, rfl, by simp, by simp, hb _ (Nat.mod_lt _ (by decide))⟩

def marks : List UInt8 := [95, 45, 46]
theorem no_high {x : UInt8} (h : 128 ≤ x.toNat) : ∀ i, Lib.indexByte (marks.drop i) x = -1 := by
  have n1 : ((95 : UInt8) == x) = false := by rw [beq_eq_false_iff_ne]; rintro rfl; revert h; decide
  have n2 : ((45 : UInt8) == x) = false := by rw [beq_eq_false_iff_ne]; rintro rfl; revert h; decide
  have n3 : ((46 : UInt8) == x) = false := by rw [beq_eq_false_iff_ne]; rintro rfl; revert h; decide
  intro i
  match i with
  | 0 => simp [marks, Lib.indexByte, n1, n2, n3]
  | 1 => simp [marks, Lib.indexByte, n1, n2, n3]
  | 2 => simp [marks, Lib.indexByte, n1, n2, n3]
  | i + 3 => simp [marks, Lib.indexByte]

def markAt (r : Int) : Int := if r = 95 then 0 else if r = 45 then 1 else if r = 46 then 2 else -1
theorem low_mark : ∀ m : Fin 128, Lib.indexByte marks (m.1.toUInt8) = markAt m.1 := by decide +kernel

theorem indexRune_ok (r : Int) : Calc cx 61 [.str marks, .int .i32 r] (.int .i64 (markAt r)) :=
  pure_intro (fun a w => Tryd.call61 a w) Tryd.func61 rfl Tryd.ntmps61 rfl .int fun B => by
    have none : (r < 0 ∨ 128 ≤ r) → AV.int .i64 (-1) = .int .i64 (markAt r) := fun h => by
      rw [markAt, if_neg (by omega), if_neg (by omega), if_neg (by omega)]
    refine ab 1000 rfl trivial ?_
    refine S_split 4 (fun fr σ => Weak fr [(0, .str marks), (1, .int .i32 r), (160, .bool (decide (0 ≤ r ∧ r < 128)))] ∧ σ = []) ?_ ?_
    · refine S_guard rfl rfl rfl rfl (fun h => ?_) (fun h => ?_)
      · have h := of_decide_eq_true h
        refine ab 1000 rfl trivial ?_
        exact S_inv ⟨.cons rfl (.cons rfl (.cons (by show AV.bool (decide (r < 128)) = _; congr 1; simp [h]) (.nil _))), rfl⟩
      · have h := of_decide_eq_false h
        refine ab 1000 rfl trivial ?_
        exact S_inv ⟨.cons rfl (.cons rfl (.cons (by show AV.bool false = _; congr 1; simp [h]) (.nil _))), rfl⟩
    rintro fr σ ⟨hw, rfl⟩
    refine S_opsW hw ?_
    refine ab 1000 rfl trivial ?_
    refine S_dec rfl (fun h => ?_) (fun h => ?_)
    · refine ab 1000 rfl trivial ?_
      refine S_pure rfl rfl rfl (indexByte_ok marks _) (.cons (.refl .str) (.cons (.refl .int) (.nil _))) ?_
      refine ab 1000 rfl trivial ?_
      refine S_retc .int rfl trivial ?_
      show AV.int .i64 (Lib.indexByte marks (IntKind.u8.wrap r).toNat.toUInt8) = _
      obtain ⟨m, rfl⟩ := Int.eq_ofNat_of_zero_le h.1
      rw [wrap_low rfl, Int.toNat_natCast, Nat.mod_eq_of_lt (by show m < 256; omega)]
      exact congrArg _ (low_mark ⟨m, by omega⟩)
    · refine ab 1000 rfl trivial ?_
      refine S_beq rfl (fun h2 => ?_) (fun h2 => ?_)
      · refine ab 1000 rfl trivial ?_
        refine S_while (α := Nat) (fun i => [(0, .str marks), (175, .ptr 0 0 0)]) (fun i => [(0, some (.siter marks i))]) (fun i => i ≤ 3) (fun i => 3 - i) 0
          (Nat.zero_le _) (.cons rfl (.cons rfl (.nil _))) rfl ?_
        rintro i hi
        refine ab 1000 rfl trivial ?_
        refine S_next rfl rfl rfl rfl rfl (fun hil => ?_) (fun hge => ?_)
        · have hi3 : i < 3 := hil
          have hc : (marks[i]).toNat < 128 := (show ∀ j : Fin 3, (marks[j.1]'j.2).toNat < 128 by decide) ⟨i, hi3⟩
          rw [decL_lt hil hc]
          refine ab 1000 rfl trivial ?_
          refine S_cond rfl (fun _ => ?_) (fun h => by cases h)
          refine ab 1000 rfl trivial ?_
          refine S_beq rfl (fun h3 => ?_) (fun h3 => ?_)
          · exact absurd (show (((marks[i]).toNat : Nat) : Int) = 65533 from h3) (by omega)
          · refine ab 1000 rfl trivial ?_
            exact S_round (i + 1) (by show 3 - (i + 1) < 3 - i; omega) (by show i + 1 ≤ 3; omega) (.cons rfl (.cons rfl (.nil _))) rfl
        · refine ab 1000 rfl trivial ?_
          refine S_cond rfl (fun h => by cases h) (fun _ => ?_)
          refine ab 1000 rfl trivial ?_
          exact S_retc .int rfl trivial (none (by omega))
      · refine ab 1000 rfl trivial ?_
        refine S_pure rfl rfl rfl (validRune_ok r) (.cons (.refl .int) (.nil _)) ?_
        refine ab 1000 rfl trivial ?_
        refine S_cond rfl (fun h3 => ?_) (fun h3 => ?_)
        · refine ab 1000 rfl trivial ?_
          exact S_retc .int rfl trivial (none (by omega))
        · have hv : (0 ≤ r ∧ r < 55296) ∨ (57343 < r ∧ r ≤ 1114111) := by
            rcases Decidable.em ((0 ≤ r ∧ r < 55296) ∨ (57343 < r ∧ r ≤ 1114111)) with hp | hp
            · exact hp
            · have h3 : (!decide ((0 ≤ r ∧ r < 55296) ∨ (57343 < r ∧ r ≤ 1114111))) = false := h3
              rw [decide_eq_false hp] at h3
              cases h3
          have h128 : 128 ≤ r := by omega
          obtain ⟨l, x, he, hl1, hl2, hx⟩ := enc_last h128 hv
          refine ab 1000 rfl trivial ?_
          refine S_scope (fun _ _ _ h => h) ?_
          refine ab 1000 rfl trivial ?_
          refine S_while (α := Unit) (fun _ => [(0, .str marks), (7, .str (l ++ [x])), (8, .int .i64 (l.length : Nat)), (9, .int .i64 (l.length : Nat))]) (fun _ => []) (fun _ => True) (fun _ => 0) () trivial
            (.cons rfl (.cons ?_ (.cons ?_ (.cons ?_ (.nil _))))) rfl ?_
          · show AV.str _ = _; rw [he]
          · show AV.int .i64 (IntKind.i64.wrap (((Utf8.encode r).data.toList.length : Nat) - 1 : Int)) = _
            rw [he, List.length_append]; exact congrArg _ (w64 (by simp) (by omega))
          · show AV.int .i64 (IntKind.i64.wrap (((Utf8.encode r).data.toList.length : Nat) - 1 : Int)) = _
            rw [he, List.length_append]; exact congrArg _ (w64 (by simp) (by omega))
          rintro _ _
          refine ab 1000 rfl trivial ?_
          refine S_dec rfl (fun hlt => ?_) (fun hge => ?_)
          · have hlt : ((l.length : Nat) : Int) < 3 := hlt
            refine ab 1000 rfl trivial ?_
            refine S_scope (fun _ _ _ h => h) ?_
            refine ab 1000 rfl trivial ?_
            refine S_draw 7 [] [] rfl rfl rfl rfl ?_ ?_
            · exact ⟨rfl, rfl, rfl, by omega, hlt, rfl, rfl, rfl, by omega, by simp; omega, rfl, trivial⟩
            refine ab 1000 rfl trivial ?_
            refine S_bne rfl (fun h4 => ?_) (fun h4 => ?_)
            · refine ab 1000 rfl trivial ?_
              refine S_draw 8 [] [.int .i64 (-1)] rfl rfl rfl rfl ?_ ?_
              · have hcalc : ∀ (s' : List UInt8) (c : Int), s' = marks.drop (l.length + 1) → c = (x.toNat : Nat) → Calc cx 68 [.str s', .int .u8 c] (.int .i64 (-1)) := by
                  rintro s' c rfl rfl
                  have h5 := indexByte_ok (marks.drop (l.length + 1)) (x.toNat : Nat)
                  rwa [Int.toNat_natCast, show x.toNat.toUInt8 = x from UInt8.ofNat_toNat, no_high hx] at h5
                have hw1 : IntKind.i64.wrap ((l.length : Int) + 1) = ((l.length + 1 : Nat) : Int) := w64 rfl (by omega)
                refine ⟨rfl, rfl, rfl, rfl, ?_, ?_, rfl, rfl, rfl, by omega, by simp; omega, ⟨_, hcalc _ _ ?_ ?_, .cons (.refl .str) (.cons (.refl .int) (.nil _))⟩, trivial⟩
                · rw [hw1]; omega
                · rw [hw1]; show ((l.length + 1 : Nat) : Int) ≤ 3; omega
                · rw [hw1]; simp [cutL]
                · rw [Int.toNat_natCast]; simp
              refine ab 1000 rfl trivial ?_
              refine S_cond rfl (fun h => ?_) (fun h => by cases h)
              refine ab 1000 rfl trivial ?_
              exact S_retc .int rfl trivial (none (by omega))
            · exfalso
              have hm : ∀ i, (marks.getD i 0).toNat < 128 := by
                intro i
                match i with
                | 0 => decide
                | 1 => decide
                | 2 => decide
                | i + 3 => simp [marks]
              have h5 := hm ((l.length : Int)).toNat
              rw [Int.toNat_natCast] at h4 h5
              rw [show ((l ++ [x]).getD l.length 0) = x by simp] at h4
              omega
          · refine ab 1000 rfl trivial ?_
            exact S_retc .int rfl trivial (none (by omega))

theorem containsRune_ok (r : Int) : Calc cx 49 [.str marks, .int .i32 r] (.bool (decide (0 ≤ markAt r))) :=
  pure_intro (fun a w => Tryd.call49 a w) Tryd.func49 rfl Tryd.ntmps49 rfl .bool fun B => by
    refine ab 1000 rfl trivial ?_
    refine S_pure rfl rfl rfl (indexRune_ok r) (.cons (.refl .str) (.cons (.refl .int) (.nil _))) ?_
    refine ab 1000 rfl trivial ?_
    exact S_retc .bool rfl trivial rfl

end Go.Proofs.YtjpmngjoohoddaaDoor
