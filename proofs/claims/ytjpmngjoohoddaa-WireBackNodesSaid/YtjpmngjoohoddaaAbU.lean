/-
  What a library's texts do with addresses: unsafe pointers, strings that share bytes; a box that is let go.
-/
import Derived.Test.YtjpmngjoohoddaaAbT
import Derived.Lib.Builder
import Derived.Laws.Externs
import Derived.Lib.UnsafeStr
set_option linter.unusedVariables false
set_option linter.unusedSimpArgs false
namespace Go.Ab
open Go

theorem exec_w {P : Program} {w w' : World} {s : Sem Value} {v : Value} (h : s.run P w = .ok v w') : (do let x ← s; pure (Next.value x) : Sem Next).run P w = .ok (.value v) w' := by
  simp [h]

/-- A box is let go; its block may have turned. -/
theorem Inv.kill {cx : Cx} {r : Rl} {σ : Heap} {w w' : World} {id cur : Nat} {y : Option Box} (hi : Inv cx r σ w) (hσ : σ[id]? = some (cur, y))
    (hsame : ∀ k, (∀ o, y ≠ none → r.ρ id cur ≠ some (k, o)) → w'.heap[k]? = w.heap[k]?) (hs : w'.heap.size = w.heap.size)
    (hsize : ∀ (b : Nat) (c : Array Value) (t : TypeId) (f : Nat × Nat), w.heap[b]? = some (Obj.cells c t f) → ∃ (c' : Array Value) (f' : Nat × Nat), w'.heap[b]? = some (Obj.cells c' t f') ∧ c'.size = c.size)
    (hos : w'.os = w.os) (hout : w'.output = w.output) (htape : w'.tape = w.tape) : Inv cx r (σ.set id (cur, none)) w' ∧ Ext r σ w r (σ.set id (cur, none)) w' := by
  have hid : id < σ.length := by
    rcases Nat.lt_or_ge id σ.length with h | h
    · exact h
    · rw [List.getElem?_eq_none h] at hσ; cases hσ
  have hget : ∀ (j v : Nat) (x : Box), (σ.set id (cur, none))[j]? = some (v, some x) → j ≠ id ∧ σ[j]? = some (v, some x) := by
    intro j v x h
    rw [List.getElem?_set] at h
    by_cases hj : id = j
    · subst hj; rw [if_pos rfl] at h; simp [hid] at h
    · rw [if_neg hj] at h; exact ⟨fun e => hj e.symm, h⟩
  have hlive : ∀ b, Live r (σ.set id (cur, none)) b → Live r σ b := by
    rintro b ⟨j, v, x, o, h1, h2⟩
    exact ⟨j, v, x, o, (hget j v x h1).2, h2⟩
  have hnot : ∀ k, r.I k → ∀ o, y ≠ none → r.ρ id cur ≠ some (k, o) := by
    intro k hk o hy h
    cases hyy : y with
    | none => exact hy hyy
    | some x => subst hyy; exact hi.imm k ⟨id, cur, x, o, hσ, h⟩ hk
  have g : Grow r w r w' := ⟨fun _ h => h, fun _ h => h, fun _ _ _ h => h, fun b hb => hsame b (hnot b hb), hsize⟩
  refine ⟨⟨fun j v x h => ?_, fun j v b o h => ?_, fun i i' v v' x x' b o o' h1 h2 h3 h4 => hi.inj i i' v v' x x' b o o' (hget _ _ _ h1).2 (hget _ _ _ h2).2 h3 h4, fun b hb hI => hi.imm b (hlive b hb) hI, fun b hb => by rw [hs]; exact hi.Ilt b hb, hi.SI, fun gl cs h => ?_⟩,
    ⟨fun _ h => h, fun _ h => h, fun _ h => .inl h, fun _ h => .inl h, fun _ _ _ h => h, by omega, by simp, fun b hb hnl => ?_, fun b hb => .inl (hlive b hb), hsize, hos, hout, htape⟩⟩
  · obtain ⟨hj, h1⟩ := hget j v x h
    rcases hi.box j v x h1 with ⟨b, o, h2, h3⟩ | h2
    · refine .inl ⟨b, o, h2, h3.mono g (hsame b (fun o' hy h4 => ?_))⟩
      cases hyy : y with
      | none => exact hy hyy
      | some x' => subst hyy; exact hj (hi.inj j id v cur x x' b o o' h1 hσ h2 h4)
    · exact .inr h2
  · obtain ⟨⟨c, x, h1, h2⟩, h3⟩ := hi.lt j v b o h
    refine ⟨?_, by omega⟩
    by_cases hj : id = j
    · subst hj
      rw [hσ] at h1; simp only [Option.some.injEq, Prod.mk.injEq] at h1
      exact ⟨cur, none, by simp [hid], by omega⟩
    · exact ⟨c, x, by rw [List.getElem?_set, if_neg hj]; exact h1, h2⟩
  · obtain ⟨h1, h2⟩ := hi.glob gl cs h
    refine ⟨h1, fun i hl => ?_⟩
    obtain ⟨v, h3, h4⟩ := h2 i hl
    exact ⟨v, by rw [cell_of_same (g.same gl (hi.SI gl h1))]; exact h3, h4⟩
  · refine hsame b (fun o hy h => hnl ?_)
    cases hyy : y with
    | none => exact absurd hyy hy
    | some x => subst hyy; exact ⟨id, cur, x, o, hσ, h⟩

section
variable {cx : Cx} {n : Nat} {B : Bs} {k : List AI} {Q : Post} {fr : Fr} {σ : Heap}

/-- A call of a library's function that hands back what it got. -/
theorem S_same {all : Array Oper} {o : Oper} {l : List Oper} {K : List Nat} {f : FuncId} {x : AV} (hext : ∀ (v : Value) (w : World), (callFunc f #[v]).run cx.P w = .ok (.value v) w) (hc : callA cx fr o.op = some (f, [x])) (hg : guardA all o K fr = some true)
    (hd : dstOk n o.dst = true) (hk : S cx n B (.ops all l K :: k) Q (setA o.dst x fr) σ) : S cx n B (.ops all (o :: l) K :: k) Q fr σ := by
  refine S_do hg hd (fun r a w hi hf => ?_) hk
  obtain ⟨vs, h1, h2⟩ := callA_go hi hf hc
  obtain ⟨v, rfl⟩ : ∃ v, vs = #[v] := by
    have := h2.1
    exact ⟨vs[0]'(by simp at this; omega), Array.ext (by simpa using this) (fun i h3 h4 => by simp at h4; subst h4; rfl)⟩
  have h3 := h2.2 0 (by simp)
  exact ⟨r, w, v, .inl (by rw [h1, hext]), h3, hi, Ext.refl _ _ _⟩

def toU (cx : Cx) (fr : Fr) (σ : Heap) (o : Op) : Option (List Prop × AV) :=
  match o with
  | .convert s d x => match cx.P.underlying s, cx.P.underlying d, ev cx fr x with
    | some (.pointer t), some .unsafePointer, .ptr id ver off => match boxAt σ id, szOf cx.P t with
      | some (cur, cs, _), some m => some ([ver = cur, off < cs.length, m ≠ 0], .ptr id ver off)
      | _, _ => none
    | _, _, _ => none
  | _ => none

theorem S_toU {all : Array Oper} {o : Oper} {l : List Oper} {K : List Nat} {C : List Prop} {v : AV} (h : toU cx fr σ o.op = some (C, v)) (hg : guardA all o K fr = some true) (hd : dstOk n o.dst = true) (hC : AllP C)
    (hk : S cx n B (.ops all l K :: k) Q (setA o.dst v fr) σ) : S cx n B (.ops all (o :: l) K :: k) Q fr σ := by
  refine S_do hg hd (fun r a w hi hf => ?_) hk
  have he : ∀ x, VRel r w (a.eval x) (ev cx fr x) := fun x => ev_rel hi hf x
  obtain ⟨dst, op, ty, pos, aft, guard⟩ := o
  simp only at h
  unfold toU at h
  split at h
  case h_2 => cases h
  rename_i s d x
  have hx := he x
  split at h
  case h_2 => cases h
  rename_i t id ver off hs hdd hxe
  rw [hxe] at hx
  split at h
  case h_2 => cases h
  rename_i cur cs g m hb hm
  simp only [Option.some.injEq, Prod.mk.injEq] at h; obtain ⟨rfl, rfl⟩ := h
  obtain ⟨hv, hlt, hm0, _⟩ := hC
  unfold execOp
  try simp only
  generalize hz : a.eval x = z at hx
  cases hx
  rename_i b o' hρ
  obtain ⟨c, ty', lo, hi', q1, q2, q3⟩ := hi.cells hb hv hρ
  have hsz : o' + off < c.size := by
    obtain ⟨v, hv', _⟩ := q2 off hlt
    rcases Nat.lt_or_ge (o' + off) c.size with h | h
    · exact h
    · rw [Array.getElem?_eq_none h] at hv'; cases hv'
  have hinfo : ∃ j, cx.P.info? t = some j ∧ j.size ≠ 0 := by
    unfold szOf at hm
    split at hm
    · rename_i j hj; simp only [Option.some.injEq] at hm; exact ⟨j, hj, by rw [hm]; exact hm0⟩
    · cases hm
  obtain ⟨j, hj, hj0⟩ := hinfo
  refine ⟨r, w, .pointer (some ⟨b, o' + off, none⟩), .inl (exec_v ?_), .ptr hρ, hi, Ext.refl _ _ _⟩
  exact Lib.run_to_unsafe (e := ty') (cells := c.size) w _ hs hdd hj hj0 (by simp [World.shape?, q1]) hsz

def fromU (cx : Cx) (fr : Fr) (σ : Heap) (o : Op) : Option (List Prop × AV) :=
  match o with
  | .convert s d x => match cx.P.underlying s, cx.P.underlying d, ev cx fr x with
    | some .unsafePointer, some (.pointer u), .ptr id ver off => match σ[id]? with
      | some (cur, some (.cells cs ⟨_, some T⟩)) => some ([ver = cur, (cx.P.info? u).isSome = true, 0 < cx.P.cellsOf T, cx.P.cellsOf T ≤ cs.length, ∀ k, liesAt cx.P cx.P.depth T (k + 1) off u 1 = true], .ptr id ver off)
      | _ => none
    | _, _, _ => none
  | _ => none

theorem S_fromU {all : Array Oper} {o : Oper} {l : List Oper} {K : List Nat} {C : List Prop} {v : AV} (h : fromU cx fr σ o.op = some (C, v)) (hg : guardA all o K fr = some true) (hd : dstOk n o.dst = true) (hC : AllP C)
    (hk : S cx n B (.ops all l K :: k) Q (setA o.dst v fr) σ) : S cx n B (.ops all (o :: l) K :: k) Q fr σ := by
  refine S_do hg hd (fun r a w hi hf => ?_) hk
  have he : ∀ x, VRel r w (a.eval x) (ev cx fr x) := fun x => ev_rel hi hf x
  obtain ⟨dst, op, ty, pos, aft, guard⟩ := o
  simp only at h
  unfold fromU at h
  split at h
  case h_2 => cases h
  rename_i s d x
  have hx := he x
  split at h
  case h_2 => cases h
  rename_i u id ver off hs hdd hxe
  rw [hxe] at hx
  split at h
  case h_2 => cases h
  rename_i cur cs ro T hb
  simp only [Option.some.injEq, Prod.mk.injEq] at h; obtain ⟨rfl, rfl⟩ := h
  obtain ⟨hv, hinf, h0, hle, hlies, _⟩ := hC
  unfold execOp
  try simp only
  generalize hz : a.eval x = z at hx
  cases hx
  rename_i b o' hρ
  have hbx : boxAt σ id = some (cur, cs, ⟨ro, some T⟩) := by simp [boxAt, hb]
  obtain ⟨c, ty', lo, hi', q1, q2, q3, q4, q5⟩ := hi.cells hbx hv hρ
  obtain ⟨rfl, rfl⟩ := q5 T rfl
  have hcs : cs.length ≤ c.size := by
    rcases Nat.eq_zero_or_pos cs.length with h | h
    · omega
    · obtain ⟨v, hv', _⟩ := q2 (cs.length - 1) (by omega)
      rcases Nat.lt_or_ge (0 + (cs.length - 1)) c.size with h' | h'
      · omega
      · rw [Array.getElem?_eq_none h'] at hv'; cases hv'
  obtain ⟨j, hj⟩ := Option.isSome_iff_exists.1 hinf
  have hcnt : ∃ k, c.size / cx.P.cellsOf ty' = k + 1 := ⟨c.size / cx.P.cellsOf ty' - 1, by have := Nat.div_pos (Nat.le_trans hle hcs) h0; omega⟩
  obtain ⟨k, hk'⟩ := hcnt
  refine ⟨r, w, .pointer (some ⟨b, 0 + off, none⟩), .inl (exec_v ?_), .ptr hρ, hi, Ext.refl _ _ _⟩
  exact Lib.run_from_unsafe (e := ty') (cells := c.size) w _ hs hdd hj (by simp [World.shape?, q1]) (by rw [hk', Nat.zero_add]; exact hlies k)

/-- A string of a builder's bytes; the bytes are let go. -/
def uStr (cx : Cx) (fr : Fr) (σ : Heap) (o : Op) (s : List UInt8) : Option (List Prop × Heap) :=
  match o with
  | .call { callee := .builtin .unsafeString, args := args, argTypes := ts } => match args.toList, ts.toList with
    | [p, m], [pt, _] => match ev cx fr p, ev cx fr m with
      | .nilp, .int .i64 j => some ([j = 0, s = []], σ)
      | .eptr id ver 0, .int .i64 j => match σ[id]?, cx.P.underlying pt with
        | some (cur, some (.cells cs ⟨_, some T⟩)), some (.pointer e) => some ([ver = cur, T = e, cx.P.cellsOf e = 1, j = s.length, s ≠ [], s.length ≤ 9223372036854775807, cs.take s.length = s.map byteAV], σ.set id (cur, none))
        | _, _ => none
      | _, _ => none
    | _, _ => none
  | _ => none

theorem S_ustr {all : Array Oper} {o : Oper} {l : List Oper} {K : List Nat} {C : List Prop} {σ' : Heap} (s : List UInt8) (h : uStr cx fr σ o.op s = some (C, σ')) (hg : guardA all o K fr = some true) (hd : dstOk n o.dst = true) (hC : AllP C)
    (hk : S cx n B (.ops all l K :: k) Q (setA o.dst (.str s) fr) σ') : S cx n B (.ops all (o :: l) K :: k) Q fr σ := by
  refine S_do hg hd (fun r a w hi hf => ?_) hk
  have he : ∀ x, VRel r w (a.eval x) (ev cx fr x) := fun x => ev_rel hi hf x
  obtain ⟨dst, op, ty, pos, aft, guard⟩ := o
  simp only at h
  unfold uStr at h
  split at h
  case h_2 => cases h
  rename_i args ts
  obtain ⟨bs, hbs⟩ := run_len_call cx.P w a.eval .unsafeString args ts dst ty pos aft guard
  rw [hbs]
  split at h
  case h_2 => cases h
  rename_i p m pt it hargs hts
  have h1 : args = #[p, m] := by rw [← Array.toArray_toList (xs := args), hargs]
  have h2 : ts = #[pt, it] := by rw [← Array.toArray_toList (xs := ts), hts]
  subst h1; subst h2
  have hp := he p
  have hm := he m
  simp only [builtin, List.map_toArray, List.map_cons, List.map_nil]
  generalize a.eval p = p' at hp ⊢
  generalize a.eval m = m' at hm ⊢
  split at h
  · rename_i j hpe hme
    rw [hpe] at hp; rw [hme] at hm
    simp only [Option.some.injEq, Prod.mk.injEq] at h; obtain ⟨rfl, rfl⟩ := h
    obtain ⟨rfl, rfl, _⟩ := hC
    cases hp; cases hm
    exact ⟨r, w, _, .inl (exec_v (Lib.run_unsafeString_none w pt it ty none)), .str rfl, hi, Ext.refl _ _ _⟩
  · rename_i id ver j hpe hme
    rw [hpe] at hp; rw [hme] at hm
    split at h
    case h_2 => cases h
    rename_i cur cs ro T e hσ hpt
    simp only [Option.some.injEq, Prod.mk.injEq] at h; obtain ⟨rfl, rfl⟩ := h
    obtain ⟨rfl, rfl, hc1, rfl, hne, h63, htk, _⟩ := hC
    cases hp; cases hm
    rename_i b o' hρ
    have hbx : boxAt σ id = some (ver, cs, ⟨ro, some T⟩) := by simp [boxAt, hσ]
    obtain ⟨c, ty', lo, hi', q1, q2, q3, q4, q5⟩ := hi.cells hbx rfl hρ
    obtain ⟨rfl, rfl⟩ := q5 T rfl
    have hlen : s.length ≤ cs.length := by
      have := congrArg List.length htk
      simp only [List.length_take, List.length_map] at this
      omega
    have hcell : ∀ i x, s[i]? = some x → w.cell? ((⟨b, 0, none⟩ : Addr).add i) = some (.int .u8 x.toNat) := by
      intro i x hx
      have hi1 : i < s.length := by
        rcases Nat.lt_or_ge i s.length with h | h
        · exact h
        · rw [List.getElem?_eq_none h] at hx; cases hx
      obtain ⟨v, hv, hvr⟩ := q2 i (by omega)
      have hx2 : cs[i] = byteAV x := by
        have h3 : (cs.take s.length)[i]? = some (byteAV x) := by rw [htk, List.getElem?_map, hx]; rfl
        rw [List.getElem?_take_of_lt hi1, List.getElem?_eq_getElem (by omega)] at h3
        exact Option.some.inj h3
      rw [hx2] at hvr
      cases hvr
      rw [Addr.add_lit]
      simp only [World.cell?, q1]
      simpa using hv
    have hcs : s.length ≤ c.size := by
      have hpos : 0 < s.length := List.length_pos_iff.2 hne
      obtain ⟨v, hv, _⟩ := q2 (s.length - 1) (by omega)
      rcases Nat.lt_or_ge (0 + (s.length - 1)) c.size with h | h
      · omega
      · rw [Array.getElem?_eq_none h] at hv; cases hv
    have hrun := Lib.run_unsafeString_row w pt it ty ty' hpt hc1 b c.size (by simp [World.shape?, q1]) s hne hcs h63 hcell
    have hfz : ∃ f : Obj → Obj, (∀ c t fz, ∃ fz', f (.cells c t fz) = .cells c t fz') ∧ w.freeze ⟨b, 0, none⟩ s.length = { w with heap := w.heap.modify b f } := by
      refine ⟨_, ?_, by unfold World.freeze; rw [if_neg (by simpa using hne)]⟩
      rintro c t ⟨lo, hi⟩
      exact ⟨_, rfl⟩
    obtain ⟨f, hf1, hfz⟩ := hfz
    have hk2 := hi.kill (w' := w.freeze ⟨b, 0, none⟩ s.length) hσ (fun k hk => by
        rw [hfz]
        simp only [Array.getElem?_modify]
        by_cases hkb : b = k
        · subst hkb; exact absurd hρ (hk 0 (by simp))
        · rw [if_neg hkb]) (by rw [hfz]; simp) (fun b2 c2 t2 f2 hc2 => by
        rw [hfz]
        simp only [Array.getElem?_modify]
        by_cases hkb : b = b2
        · subst hkb
          rw [if_pos rfl, hc2]
          obtain ⟨fz', hfz'⟩ := hf1 c2 t2 f2
          exact ⟨c2, fz', by simp [hfz'], rfl⟩
        · rw [if_neg hkb]; exact ⟨c2, f2, hc2, rfl⟩) (by rw [hfz]) (by rw [hfz]) (by rw [hfz])
    refine ⟨r, w.freeze ⟨b, 0, none⟩ s.length, .string ⟨s.toArray⟩, .inl (exec_w ?_), .str (by simp), hk2.1, hk2.2⟩
    simpa using hrun
  · cases h

end
end Go.Ab
