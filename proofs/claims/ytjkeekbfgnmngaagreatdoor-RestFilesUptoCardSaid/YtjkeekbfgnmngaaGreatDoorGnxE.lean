/-
  Texts of our own, in one file.
-/
import Derived.Test.YtjkeekbfgnmngaaGreatDoorGnxD
import Derived.WideShapes
import Derived.Shelf.Spec.SlicesGrow
import Derived.Shelf.SlSortCmp.WholeK
section
set_option linter.unusedVariables false
set_option linter.unusedSimpArgs false
namespace Go.Ab
open Go
def MethP (P : Program) (T : TypeId) (name : String) (f : FuncId) : Prop := ∀ v w, (method (P.types.size + Made.depth) T v name).run P w = .ok (f, v) w
def MethL (P : Program) (T : TypeId) (name : String) (f : FuncId) (el : TypeId) : Prop := ∀ a w, (method (P.types.size + Made.depth) T (.pointer (some a)) name).run P w = ((loadVar el a).run P w).andThen fun x w' => .ok (f, x) w'
inductive Recv (cx : Cx) (σ : Heap) (T : TypeId) (name : String) (f : FuncId) : AV → AV → Prop
  | val {v} (h : MethP cx.P T name f) : Recv cx σ T name f v v
  | load {id ver off : Nat} {cs : List AV} {g : Tag} {el : TypeId} {x : AV} (h : MethL cx.P T name f el) (hb : boxAt σ id = some (ver, cs, g)) (hl : aLoad cx.P el (cs.drop off) = some x) : Recv cx σ T name f (.ptr id ver off) x
theorem Recv.run {cx : Cx} {r : Rl} {σ : Heap} {w : World} {T : TypeId} {name : String} {f : FuncId} {v x : AV} {z : Value} (hi : Inv cx r σ w) (h : Recv cx σ T name f v x) (hz : VRel r w z v) :
    ∃ u, (method (cx.P.types.size + Made.depth) T z name).run cx.P w = .ok (f, u) w ∧ VRel r w u x := by
  cases h with
  | val h => exact ⟨z, h z w, hz⟩
  | load h hb hl =>
    cases hz with
    | ptr hρ =>
      rename_i b' o _ _ _
      obtain ⟨v', h1, h2⟩ := aLoad_run (P := cx.P) ((hi.cells hb rfl hρ).cells'.drop _) hl
      exact ⟨v', by rw [h]; rw [h1]; rfl, h2⟩
section
variable {cx : Cx} {n : Nat} {B : Bs} {k : List AI} {Q : Post} {fr : Fr} {σ : Heap}
theorem OpSpec.store {o : Oper} {C : List Prop} {σ' : Heap} (h : storeA cx fr σ o.op = some (C, σ')) (hC : AllP C) : OpSpec cx n fr σ o (.tup []) σ' := by
  intro r a w hi hf
  have he : ∀ x, VRel r w (a.eval x) (ev cx fr x) := fun x => ev_rel hi hf x
  obtain ⟨dst, op, ty, pos, aft, guard⟩ := o
  simp only at h
  unfold storeA at h
  split at h
  case h_2 => cases h
  rename_i t s x
  have hs := he s
  have hx := he x
  split at h
  case h_2 => cases h
  rename_i m hm
  split at h
  case h_3 => cases h
  all_goals
    rename_i id ver off hse
    rw [hse] at hs
    split at h
    case h_2 => cases h
    rename_i cur cs hσ
    simp only [Option.some.injEq, Prod.mk.injEq] at h; obtain ⟨rfl, rfl⟩ := h
    obtain ⟨h1, h2, h3, h4, _⟩ := hC
    unfold execOp
    try simp only
    generalize hz : a.eval s = z at hs
    cases hs
    rename_i b o' hρ
    obtain ⟨w', r', k1, k2, k3⟩ := store_main hi hm hσ h3 h4 h1 (allOne_mem h2) hx hρ
    refine ⟨r', w', undef, .inr ⟨?_, rfl⟩, .tup rfl (fun i h => absurd h (by simp)), k2, k3⟩
    simp [Instr.storeAt, Instr.sureAddr, k1]
end
end Go.Ab
end
section
set_option linter.unusedVariables false
set_option linter.unusedSimpArgs false
namespace Go.Ab
open Go
theorem CallOk.frame {cx : Cx} {f : FuncId} {args args' : List AV} {σ σs σs' es : Heap} {x x' : AV} (ids : List Nat) (h : CallOk cx f args σs (fun e s => e = .ret x ∧ s = σs')) (ha : Rns ids args args') (hp : Part ids σs σ)
    (hes : RnH (ids ++ newIds σ.length (es.length - ids.length)) σs' es) (hx : Rn (ids ++ newIds σ.length (es.length - ids.length)) x x') : CallOk cx f args' σ (fun e s => e = .ret x' ∧ s = putAll σ ids es) := by
  refine ⟨h.1, fun r w vs hi hv => ?_⟩
  have hsub := frame_down hi hp
  have hvs : VRels (r.sub ids) w vs args := by
    refine ⟨hv.1.trans ha.1.symm, fun i hi' => ?_⟩
    refine (ha.2 i hi' (by rw [← ha.1]; exact hi')).down (r := r) (r' := r.sub ids) (fun _ h => h) (fun _ h => h) hi.SI (fun i j ver p h1 h2 => ?_) (hv.2 i (by rw [← ha.1]; exact hi'))
    simp only [Rl.sub, h1]; exact h2
  refine (h.2 _ w vs hsub hvs).mono fun e w' ⟨out, σ1, r1, hRo, ho, hi1, hx1⟩ => ?_
  obtain ⟨rfl, rfl⟩ := hRo
  obtain ⟨q1, q2, q3⟩ := frame_up hi hp hi1 hx1 rfl hes
  cases e with
  | returned u => exact ⟨.ret x', _, _, ⟨rfl, rfl⟩, q3 _ _ _ hx ho, q1, q2⟩
  | panicked chain => exact ho.elim
  | outgrown => exact ho.elim
theorem CallOk.fresh {cx : Cx} {f : FuncId} {args : List AV} {σs es : Heap} {x x' : AV} (σ : Heap) (h : CallOk cx f args [] (fun e s => e = .ret x ∧ s = σs)) (ha : ∀ a ∈ args, Free false a) (hes : RnH (newIds σ.length es.length) σs es) (hx : Rn (newIds σ.length es.length) x x') :
    CallOk cx f args σ (fun e s => e = .ret x' ∧ s = σ ++ es) := by
  have := CallOk.frame (σ := σ) (es := es) [] h (Rns.free ha) ⟨List.nodup_nil, (fun j hj => by cases hj), rfl, (fun i j e hi => by simp at hi)⟩ (by simpa using hes) (x' := x') (by simpa using hx)
  simpa only [putAll] using this
end Go.Ab
end
section
set_option linter.unusedVariables false
set_option linter.unusedSimpArgs false
namespace Go.Ab
open Go
structure KeyLaw {α : Type} [DecidableEq α] (cx : Cx) (kt : TypeId) (key : α → AV) : Prop where
  check : ∀ (e : Bool) (r : Rl) (w : World) (v : Value) (a : α), VRel r w v (key a) → (Instr.checkKey e 10000 kt v).run cx.P w = .ok () w
  equal : ∀ (r : Rl) (w : World) (u v : Value) (a b : α), VRel r w u (key a) → VRel r w v (key b) → (Op.equal kt u v).run cx.P w = .ok (decide (a = b)) w
  bits : ∀ (r : Rl) (w : World) (u v : Value) (a : α), VRel r w u (key a) → VRel r w v (key a) → Instr.sameBits 10000 u v = true
  slow : ∃ d, cx.P.underlying kt = some d ∧ ∀ k e l i, Instr.findNow d k (e :: l) i = none
def fieldsFit (P : Program) : List Field → List AV → Bool
  | [], _ => true
  | f :: fs, xs => match aLoad P f.type (xs.drop f.offset) with
    | some y => keyFits P f.type y && fieldsFit P fs xs
    | none => false
theorem checkKey_one {P : Program} {w : World} {k : TypeId} {key : Value} {r : Rl} {a : AV} (e : Bool) (d : Nat) (h : keyFits P k a = true) (ha : VRel r w key a) : (Instr.checkKey e (d + 1) k key).run P w = .ok () w := by
  obtain ⟨q, hu, hd⟩ := keyFits_spec h
  unfold Instr.checkKey
  rcases hd with ⟨rfl, s, rfl⟩ | ⟨j, rfl, n, m, rfl⟩ | ⟨rfl, x, rfl⟩ <;> cases ha <;> simp [run_underlying hu]
theorem checkKey_struct {P : Program} {w : World} {k : TypeId} {v : Value} {r : Rl} {az : List AV} {fs : Array Field} (e : Bool) (hu : P.underlying k = some (.struct fs)) (hf : fieldsFit P fs.toList az = true) (ha : VRel r w v (.agg az)) : (Instr.checkKey e 10000 k v).run P w = .ok () w := by
  have hva : ∃ xs, v = .agg xs := by cases ha; exact ⟨_, rfl⟩
  obtain ⟨xs, rfl⟩ := hva
  show (Instr.checkKey e (9998 + 1 + 1) k (.agg xs)).run P w = _
  rw [Instr.checkKey]
  simp only [Sem.run_bind, run_underlying hu, Result.andThen_ok]
  rw [← Array.forIn_toList]
  generalize fs.toList = L at hf
  induction L with
  | nil => simp
  | cons f L ih =>
    rw [fieldsFit] at hf
    split at hf
    case h_2 => cases hf
    rename_i y hy
    rw [Bool.and_eq_true] at hf
    obtain ⟨z, p1, p2⟩ := part_run ha hy
    have p3 := checkKey_one e 9998 hf.1 p2
    by_cases hn : f.name = "_"
    · simp only [List.forIn_cons, Sem.run_bind, hn, ne_eq, not_true_eq_false, if_false, Result.andThen_ok, Sem.run_pure]
      exact ih hf.2
    · simp only [List.forIn_cons, Sem.run_bind, hn, ne_eq, not_false_eq_true, if_true, Result.andThen_ok, p1, p3, Sem.run_pure]
      exact ih hf.2
theorem equal_struct {P : Program} {w : World} {t : TypeId} {u v : Value} {r : Rl} {az bs : List AV} {fs : Array Field} {b : Bool} (ht : P.underlying t = some (.struct fs)) (hc : cmpOk P t = true) (hb : eqFs P fs.toList az bs = some b) (hx : VRel r w u (.agg az)) (hy : VRel r w v (.agg bs)) :
    (Op.equal t u v).run P w = .ok b w := by
  have hxa : ∃ xs, u = .agg xs := by cases hx; exact ⟨_, rfl⟩
  have hya : ∃ xs, v = .agg xs := by cases hy; exact ⟨_, rfl⟩
  obtain ⟨xs, rfl⟩ := hxa
  obtain ⟨ys, rfl⟩ := hya
  have hfo : P.fieldsOf t = fs := by simp [Program.fieldsOf, ht]
  unfold cmpOk at hc
  rw [ht] at hc
  simp only [Bool.and_eq_true, Bool.not_eq_true', List.all_eq_true, bne_iff_ne] at hc
  show (Op.equalIn (9998 + 1 + 1) t _ _).run P w = _
  rw [run_equalIn_struct w (9998 + 1) t xs ys (by rw [hfo]; exact ht) hc.1.1, hfo]
  exact eqFs_run 9998 hx hy fs.toList hb hc.2
def plainA : AV → Bool
  | .str _ => true
  | .int _ _ => true
  | .bool _ => true
  | _ => false
theorem bits_one {r : Rl} {w : World} {u v : Value} {a : AV} (d : Nat) (h : plainA a = true) (hu : VRel r w u a) (hv : VRel r w v a) : Instr.sameBits d u v = true := by
  cases a <;> first | cases h | skip
  · cases hu; cases hv; unfold Instr.sameBits; simp
  · cases hu; cases hv; unfold Instr.sameBits; simp
  · cases hu with
    | str h1 =>
      cases hv with
      | str h2 =>
        unfold Instr.sameBits
        exact (MapKept.bytes_beq _ _).2 (ByteArray.ext (Array.toList_inj.1 (h1.trans h2.symm)))
theorem bits_struct {r : Rl} {w : World} {u v : Value} {az : List AV} (h : az.all plainA = true) (hu : VRel r w u (.agg az)) (hv : VRel r w v (.agg az)) : Instr.sameBits 10000 u v = true := by
  cases hu with
  | agg hn h1 =>
    cases hv with
    | agg hm h2 =>
      rename_i xs ys
      unfold Instr.sameBits
      rw [Bool.and_eq_true]
      refine ⟨by simp [hn, hm], ?_⟩
      rw [List.all_eq_true]
      rintro ⟨x, y⟩ hxy
      obtain ⟨i, hi, e⟩ := List.getElem_of_mem hxy
      rw [List.length_zip, Array.length_toList, Array.length_toList] at hi
      rw [List.getElem_zip] at e
      have hia : i < az.length := by omega
      have k1 := h1 i hia
      have k2 := h2 i hia
      have e1 : xs.getD i undef = x := by
        rw [Array.getD_eq_getD_getElem?, Array.getElem?_eq_getElem (by omega)]
        exact (congrArg Prod.fst e)
      have e2 : ys.getD i undef = y := by
        rw [Array.getD_eq_getD_getElem?, Array.getElem?_eq_getElem (by omega)]
        exact (congrArg Prod.snd e)
      rw [e1] at k1; rw [e2] at k2
      exact bits_one _ (List.all_eq_true.1 h _ (List.getElem_mem hia)) k1 k2
theorem KeyLaw.struct {α : Type} [DecidableEq α] {cx : Cx} {kt : TypeId} {fs : Array Field} {parts : α → List AV} (hu : cx.P.underlying kt = some (.struct fs)) (hc : cmpOk cx.P kt = true) (hf : ∀ a, fieldsFit cx.P fs.toList (parts a) = true) (hp : ∀ a, (parts a).all plainA = true)
    (he : ∀ a b, eqFs cx.P fs.toList (parts a) (parts b) = some (decide (a = b))) : KeyLaw cx kt (fun a => .agg (parts a)) where
  check := fun e r w v a h => checkKey_struct e hu (hf a) h
  equal := fun r w u v a b h1 h2 => equal_struct hu hc (he a b) h1 h2
  bits := fun r w u v a h1 h2 => bits_struct (hp a) h1 h2
  slow := ⟨_, hu, fun k e l i => rfl⟩
section
variable {α : Type} [DecidableEq α]
def mapG (key : α → AV) (ks : List α) (val : α → AV) : List (AV × AV) := ks.map fun k => (key k, val k)
def addG (l : List α) (s : α) : List α := if s ∈ l then l else l ++ [s]
def updG (val : α → AV) (t : α) (v : AV) : α → AV := fun k => if k = t then v else val k
def mapGx (key : α → AV) (ks : List α) (val : α → AV) : Option Box := some (.map (mapG key ks val) (some (List.range ks.length, ks.length)))
theorem addG_mem {l : List α} {s x : α} : x ∈ addG l s ↔ x ∈ l ∨ x = s := by
  unfold addG
  split
  · rename_i h
    exact ⟨.inl, fun h' => h'.elim id fun e => e ▸ h⟩
  · simp
theorem addG_nodup {l : List α} {s : α} (h : l.Nodup) : (addG l s).Nodup := by
  unfold addG
  split
  · exact h
  · rename_i hs
    exact List.nodup_append.2 ⟨h, by simp, fun a ha b hb => by simp at hb; subst hb; exact fun e => hs (e ▸ ha)⟩
theorem KeyLaw.find {cx : Cx} {kt : TypeId} {key : α → AV} (L : KeyLaw cx kt key) {r : Rl} {w : World} {a : α} {k : Value} (hk : VRel r w k (key a)) : ∀ (es : List MapEntry) (ks : List α) (i : Nat), es.length = ks.length → (∀ j (h : j < ks.length), ∃ e, es[j]? = some e ∧ VRel r w e.key (key ks[j])) →
    (a ∉ ks ∧ (Instr.findAsking kt k es i).run cx.P w = .ok none w) ∨ (a ∈ ks ∧ ∃ e, es[ks.idxOf a]? = some e ∧ (Instr.findAsking kt k es i).run cx.P w = .ok (some (i + ks.idxOf a, e.val)) w)
  | [], [], i, _, _ => .inl ⟨by simp, by simp [Instr.findAsking]⟩
  | [], _ :: _, _, hl, _ => by simp at hl
  | _ :: _, [], _, hl, _ => by simp at hl
  | e :: es, x :: ks, i, hl, hr => by
    obtain ⟨e0, q1, q2⟩ := hr 0 (by simp)
    simp only [List.getElem?_cons_zero, Option.some.injEq, List.getElem_cons_zero] at q1 q2
    subst q1
    have heq := L.equal r w k e.key a x hk q2
    by_cases hax : a = x
    · subst hax
      refine .inr ⟨by simp, e, by simp, ?_⟩
      rw [decide_eq_true rfl] at heq
      rw [Instr.findAsking]
      simp only [Sem.run_bind, heq, Result.andThen_ok, if_true, Sem.run_pure, List.idxOf_cons_self, Nat.add_zero]
    · rw [decide_eq_false hax] at heq
      have hf : (Instr.findAsking kt k (e :: es) i).run cx.P w = (Instr.findAsking kt k es (i + 1)).run cx.P w := by
        conv => lhs; rw [Instr.findAsking]
        simp [heq]
      have hx : (x == a) = false := by simpa using Ne.symm hax
      rcases KeyLaw.find L hk es ks (i + 1) (by simpa using hl) (fun j hj => by
        obtain ⟨e', m1, m2⟩ := hr (j + 1) (by simp; omega)
        exact ⟨e', by simpa using m1, by simpa using m2⟩) with ⟨h1, h2⟩ | ⟨h1, e', h2, h3⟩
      · exact .inl ⟨by simp [hax, h1], by rw [hf]; exact h2⟩
      · refine .inr ⟨List.mem_cons_of_mem _ h1, e', ?_, ?_⟩
        · rw [List.idxOf_cons, hx]; simpa using h2
        · rw [hf, h3, List.idxOf_cons, hx]
          simp only [cond_false]
          rw [show i + 1 + ks.idxOf a = i + (ks.idxOf a + 1) by omega]
theorem KeyLaw.findKey {cx : Cx} {kt : TypeId} {key : α → AV} (L : KeyLaw cx kt key) {r : Rl} {w : World} {a : α} {k : Value} (hk : VRel r w k (key a)) {es : Array MapEntry} {clock : Nat} {ks : List α} {val : α → AV} {st : Option (List Nat × Nat)} (hm : MapIs r w es clock (mapG key ks val) st) :
    (a ∉ ks ∧ (Instr.findKey kt k es.toList).run cx.P w = .ok none w) ∨ (a ∈ ks ∧ ∃ e, es[ks.idxOf a]? = some e ∧ VRel r w e.val (val a) ∧ VRel r w e.key (key a) ∧ (Instr.findKey kt k es.toList).run cx.P w = .ok (some (ks.idxOf a, e.val)) w) := by
  have hlen : (mapG key ks val).length = ks.length := by simp [mapG]
  have hat : ∀ j (h : j < ks.length), ∃ e, es[j]? = some e ∧ VRel r w e.key (key ks[j]) ∧ VRel r w e.val (val ks[j]) := by
    intro j hj
    obtain ⟨e, h1, h2, h3⟩ := hm.2.1 j (by omega)
    refine ⟨e, h1, ?_, ?_⟩
    · simpa [mapG] using h2
    · simpa [mapG] using h3
  obtain ⟨d, hd, hs⟩ := L.slow
  have h := L.find hk es.toList ks 0 (by rw [Array.length_toList, hm.1, hlen]) (fun j hj => by
    obtain ⟨e, h1, h2, _⟩ := hat j hj
    exact ⟨e, by rw [Array.getElem?_toList]; exact h1, h2⟩)
  have hfk : (Instr.findKey kt k es.toList).run cx.P w = (Instr.findAsking kt k es.toList 0).run cx.P w := by
    unfold Instr.findKey
    cases hes : es.toList with
    | nil => simp [run_underlying hd, Instr.findNow, Instr.findAsking]
    | cons e l => simp [run_underlying hd, hs]
  rw [hfk]
  rcases h with h | ⟨h1, e, h2, h3⟩
  · exact .inl h
  · refine .inr ⟨h1, e, by rw [← Array.getElem?_toList]; exact h2, ?_, ?_, by rw [h3, Nat.zero_add]⟩
    · obtain ⟨e', m1, m2, m3⟩ := hat _ (List.idxOf_lt_length_of_mem h1)
      rw [Array.getElem?_toList, m1] at h2
      obtain rfl := Option.some.inj h2
      rw [List.getElem_idxOf] at m3; exact m3
    · obtain ⟨e', m1, m2, m3⟩ := hat _ (List.idxOf_lt_length_of_mem h1)
      rw [Array.getElem?_toList, m1] at h2
      obtain rfl := Option.some.inj h2
      rw [List.getElem_idxOf] at m2; exact m2
variable {cx : Cx} {n : Nat} {fr : Fr} {σ : Heap}
theorem OpSpec.gget {o : Oper} {t kt et : TypeId} {m key : Operand} {id ver : Nat} {kf : α → AV} {ks : List α} {val : α → AV} {st : Option (List Nat × Nat)} {z : AV} {s : α} (L : KeyLaw cx kt kf) (ho : o.op = .lookup t m key false) (ht : cx.P.underlying t = some (.map kt et))
    (hm : ev cx fr m = .map id ver) (hkey : ev cx fr key = kf s) (hσ : σ[id]? = some (ver, some (.map (mapG kf ks val) st))) (hz : zeroV cx.P et = some z) (hv : s ∉ ks → val s = z) :
    OpSpec cx n fr σ o (val s) σ := by
  intro r a w hi hf
  have he : ∀ x, VRel r w (a.eval x) (ev cx fr x) := fun x => ev_rel hi hf x
  have hmv := he m
  have hkv := he key
  rw [hm] at hmv
  rw [hkey] at hkv
  obtain ⟨b, es, clock, hzz, hρ, hb, hmi⟩ := hi.mapAt hσ hmv
  obtain ⟨dst, op, ty, pos, after, guard⟩ := o
  simp only at ho
  subst ho
  have hck := L.check es.isEmpty r w _ s hkv
  rcases L.findKey hkv hmi with ⟨h1, h2⟩ | ⟨h1, e, h2, h3, _, h4⟩
  · obtain ⟨z', hz1, hz2⟩ := zeroV_run hz r w
    refine ⟨r, w, z', .inl ?_, by rw [hv h1]; exact hz2, hi, Ext.refl _ _ _⟩
    simp [execOp, Instr.lookup, run_underlying ht, hzz, MapKept.run_getObj_map hb, hck, h2, hz1]
  · refine ⟨r, w, e.val, .inl ?_, h3, hi, Ext.refl _ _ _⟩
    simp [execOp, Instr.lookup, run_underlying ht, hzz, MapKept.run_getObj_map hb, hck, h4]
theorem mapG_push (kf : α → AV) {ks : List α} (val : α → AV) {s : α} (h : s ∉ ks) : mapG kf (addG ks s) val = mapG kf ks val ++ [(kf s, val s)] := by
  unfold addG mapG; rw [if_neg h, List.map_append]; rfl
theorem OpSpec.gentry {o : Oper} {t kt et : TypeId} {m key : Operand} {id ver : Nat} {kf : α → AV} {ks : List α} {val : α → AV} {z : AV} {s : α} (L : KeyLaw cx kt kf) (ho : o.op = .mapEntry t m key) (ht : cx.P.underlying t = some (.map kt et))
    (hm : ev cx fr m = .map id ver) (hkey : ev cx fr key = kf s) (hσ : σ[id]? = some (ver, mapGx kf ks val)) (hz : zeroV cx.P et = some z) (hv : s ∉ ks → val s = z) {σ' : Heap} (hσ' : σ.set id (ver, mapGx kf (addG ks s) val) = σ') :
    OpSpec cx n fr σ o (.tup [val s, .int .i64 ((addG ks s).idxOf s : Nat)]) σ' := by
  subst hσ'
  intro r a w hi hf
  have he : ∀ x, VRel r w (a.eval x) (ev cx fr x) := fun x => ev_rel hi hf x
  have hmv := he m
  have hkv := he key
  rw [hm] at hmv
  rw [hkey] at hkv
  obtain ⟨b, es, clock, hzz, hρ, hb, hmi⟩ := hi.mapAt hσ hmv
  obtain ⟨dst, op, ty, pos, after, guard⟩ := o
  simp only at ho
  subst ho
  have hck := L.check false r w _ s hkv
  obtain ⟨hbs, hcl⟩ := hmi.2.2.2.2 _ _ rfl
  have tup2 : ∀ {r' : Rl} {w' : World} {x y : Value} {p q : AV}, VRel r' w' x p → VRel r' w' y q → VRel r' w' (.tuple #[x, y]) (.tup [p, q]) := fun h1 h2 => .tup rfl (fun i hi => by
    simp only [List.length_cons, List.length_nil] at hi
    rcases i with _ | _ | i
    · exact h1
    · exact h2
    · omega)
  rcases L.findKey hkv hmi with ⟨h1, h2⟩ | ⟨h1, e, h2, h3, h5, h4⟩
  · obtain ⟨z', hz1, hz2⟩ := zeroV_run hz r w
    have hm' := hmi.pushK hkv (x := val s) (by rw [hv h1]; exact hz2)
    have hk' : setK (mapG kf ks val) (kf s) (val s) none = mapG kf (addG ks s) val := (mapG_push kf val h1).symm
    have hlen : (addG ks s).length = ks.length + 1 := by unfold addG; rw [if_neg h1]; simp
    have hst : setB (some (List.range ks.length, ks.length)) none = some (List.range (addG ks s).length, (addG ks s).length) := by
      rw [hlen]; show some (List.range ks.length ++ [ks.length], ks.length + 1) = _
      rw [List.range_succ]
    rw [hk', hst] at hm'
    obtain ⟨r', k1, k2⟩ := hi.mapSet hσ hρ hb hm'
    have hix : (addG ks s).idxOf s = ks.length := by
      unfold addG; rw [if_neg h1, List.idxOf_append, if_neg h1]; simp
    refine ⟨r', _, .tuple #[z', goInt clock], .inl ?_, tup2 ?_ ?_, k1, k2⟩
    · simp [execOp, Instr.mapEntry, run_underlying ht, hzz, MapKept.run_getObj_map hb, hck, h2, hz1, MapKept.run_setObj_map _ hb]
    · rw [hv h1]; exact hz2.mono (k2.grow hi)
    · rw [hix, hcl]; exact .int
  · have hj := List.idxOf_lt_length_of_mem h1
    have hadd : addG ks s = ks := if_pos h1
    have hm0 : MapIs r w (es.modify (ks.idxOf s) fun e => { e with key := a.eval key }) clock (mapG kf ks val) (some (List.range ks.length, ks.length)) := by
      have hq := hmi.setK hkv h3 (j := ks.idxOf s) (v := val s) (by simpa [mapG] using hj)
      have e1 : setK (mapG kf ks val) (kf s) (val s) (some (ks.idxOf s, val s)) = mapG kf ks val := by
        show (mapG kf ks val).set (ks.idxOf s) (kf s, val s) = _
        have : (mapG kf ks val)[ks.idxOf s]'(by simpa [mapG] using hj) = (kf s, val s) := by simp [mapG]
        rw [← this, List.set_getElem_self]
      rw [e1] at hq
      have e2 : (es.modify (ks.idxOf s) fun e' => { e' with key := a.eval key, val := e.val }) = es.modify (ks.idxOf s) fun e => { e with key := a.eval key } := by
        apply Array.ext_getElem?
        intro i
        rw [Array.getElem?_modify, Array.getElem?_modify]
        split
        · rename_i hii
          rw [← hii, h2]; rfl
        · rfl
      rw [e2] at hq
      exact hq
    obtain ⟨r', k1, k2⟩ := hi.mapSet hσ hρ hb hm0
    have hborn : e.born = ks.idxOf s := by
      have : (es.toList.map MapEntry.born)[ks.idxOf s]? = some e.born := by rw [List.getElem?_map, Array.getElem?_toList, h2]; rfl
      rw [hbs, List.getElem?_range hj] at this
      exact (Option.some.inj this).symm
    rw [hadd]
    refine ⟨r', _, .tuple #[e.val, goInt e.born], .inl ?_, tup2 (h3.mono (k2.grow hi)) ?_, k1, k2⟩
    · have hbits := L.bits r w _ _ s h5 hkv
      simp [execOp, Instr.mapEntry, run_underlying ht, hzz, MapKept.run_getObj_map hb, hck, h4, h2, Instr.keyThatStays, hbits, MapKept.run_setObj_map _ hb]
    · rw [hborn]; exact .int
theorem OpSpec.gstore {o : Oper} {t : TypeId} {m st x : Operand} {id ver : Nat} {kf : α → AV} {ks : List α} {val : α → AV} {s : α} {v : AV} (ho : o.op = .entryStore t m st x)
    (hm : ev cx fr m = .map id ver) (hst : ev cx fr st = .int .i64 (ks.idxOf s : Nat)) (hx : ev cx fr x = v) (hσ : σ[id]? = some (ver, mapGx kf ks val)) (hs : s ∈ ks) (hn : ks.Nodup) {σ' : Heap} (hσ' : σ.set id (ver, mapGx kf ks (updG val s v)) = σ') :
    OpSpec cx n fr σ o (.tup []) σ' := by
  subst hσ'
  intro r a w hi hf
  have he : ∀ x, VRel r w (a.eval x) (ev cx fr x) := fun x => ev_rel hi hf x
  have hmv := he m
  have hsv := he st
  have hxv := he x
  rw [hm] at hmv
  rw [hst] at hsv
  rw [hx] at hxv
  obtain ⟨b, es, clock, hzz, hρ, hb, hmi⟩ := hi.mapAt hσ hmv
  obtain ⟨dst, op, ty, pos, after, guard⟩ := o
  simp only at ho
  subst ho
  obtain ⟨hbs, hcl⟩ := hmi.2.2.2.2 _ _ rfl
  have hj := List.idxOf_lt_length_of_mem hs
  have hlen : (mapG kf ks val).length = ks.length := by simp [mapG]
  obtain ⟨e, m1, m2, m3⟩ := hmi.2.1 (ks.idxOf s) (by omega)
  have hborn : ∀ (i : Nat) (e : MapEntry), es[i]? = some e → e.born = i := by
    intro i e h
    have h2 : (es.toList.map MapEntry.born)[i]? = some e.born := by rw [List.getElem?_map, Array.getElem?_toList, h]; rfl
    have hi' : i < ks.length := by
      rcases Nat.lt_or_ge i ks.length with h' | h'
      · exact h'
      · rw [hbs, List.getElem?_eq_none (by simpa using h')] at h2; cases h2
    rw [hbs, List.getElem?_range hi'] at h2
    exact (Option.some.inj h2).symm
  have hfi : es.findIdx? (fun e => (e.born : Int) == ((ks.idxOf s : Nat) : Int)) = some (ks.idxOf s) := by
    rw [Array.findIdx?_eq_some_iff_getElem]
    have hjs : ks.idxOf s < es.size := by rw [hmi.1, hlen]; exact hj
    refine ⟨hjs, ?_, fun i hi' => ?_⟩
    · rw [hborn _ _ (Array.getElem?_eq_getElem hjs)]; simp
    · rw [hborn _ _ (Array.getElem?_eq_getElem (by omega))]
      simp; omega
  have hset : setK (mapG kf ks val) (kf s) v (some (ks.idxOf s, v)) = mapG kf ks (updG val s v) := by
    show (mapG kf ks val).set (ks.idxOf s) (kf s, v) = _
    have hat : ks[ks.idxOf s] = s := List.getElem_idxOf hj
    unfold mapG
    apply List.ext_getElem
    · simp
    · intro i h1 h2
      rw [List.getElem_set, List.getElem_map, List.getElem_map]
      by_cases hi2 : ks.idxOf s = i
      · subst hi2
        rw [if_pos rfl, hat]; unfold updG; rw [if_pos rfl]
      · rw [if_neg hi2]
        unfold updG
        rw [if_neg]
        intro e
        exact hi2 ((List.getElem_inj hn).1 (hat.trans e.symm))
  have hkey : VRel r w e.key (kf s) := by
    have : (mapG kf ks val)[ks.idxOf s]'(by omega) = (kf s, val s) := by simp [mapG]
    rw [this] at m2; exact m2
  have hm' := hmi.setK hkey hxv (j := ks.idxOf s) (v := v) (by omega)
  rw [hset] at hm'
  have e2 : (es.modify (ks.idxOf s) fun e' => { e' with key := e.key, val := a.eval x }) = es.modify (ks.idxOf s) fun e => { e with val := a.eval x } := by
    apply Array.ext_getElem?
    intro i
    rw [Array.getElem?_modify, Array.getElem?_modify]
    split
    · rename_i hii
      rw [← hii, m1]; rfl
    · rfl
  rw [e2] at hm'
  obtain ⟨r', k1, k2⟩ := hi.mapSet hσ hρ hb hm'
  refine ⟨r', _, undef, .inr ⟨?_, rfl⟩, .tup rfl (fun i h => absurd h (by simp)), k1, k2⟩
  have hsi : a.eval st = .int .i64 ((ks.idxOf s : Nat) : Int) := by
    generalize a.eval st = y at hsv
    cases hsv; rfl
  simp [execOp, Instr.entryStore, hzz, hsi, asInt, asIntOf, MapKept.run_getObj_map hb, hfi, MapKept.run_setObj_map _ hb]
theorem OpSpec.entryG {o : Oper} {x : Operand} {id ver mid mver since c i b : Nat} {seen bs : List Nat} {kvs : List (AV × AV)} {p q : AV} (ho : o.op = .entry x) (hx0 : ev cx fr x = .ptr id ver 0) (hσ : σ[id]? = some (ver, some (.miter mid mver since (seen ++ [b]) c)))
    (hσm : σ[mid]? = some (mver, some (.map kvs (some (bs, c))))) (hb : bs[i]? = some b) (hk : kvs[i]? = some (p, q)) : OpSpec cx n fr σ o (.tup [p, q]) σ := by
  have hik : i < kvs.length := by
    rcases Nat.lt_or_ge i kvs.length with h | h
    · exact h
    · rw [List.getElem?_eq_none h] at hk; cases hk
  have h := OpSpec.entry (n := n) ho hx0 hσ hσm hb hik
  rw [List.getElem?_eq_getElem hik] at hk
  rw [Option.some.inj hk] at h
  exact h
end
end Go.Ab
end
section
set_option linter.unusedVariables false
set_option linter.unusedSimpArgs false
namespace Go.Ab
open Go
section
variable {cx : Cx} {n : Nat} {B : Bs} {k : List AI} {Q : Post} {fr : Fr} {σ : Heap}
theorem OpSpec.aop {σ' : Heap} {o : Oper} {C : List Prop} {v : AV} (h : aOp cx [] o.dst o.op fr σ = some (C, v, σ')) (hC : AllP C) : OpSpec cx n fr σ o v σ' := fun r a w hi hf => aOp_run hi hf h hC
end
end Go.Ab
end
section
set_option linter.unusedVariables false
set_option linter.unusedSimpArgs false
namespace Go.Ab
open Go
section
variable {cx : Cx} {n : Nat} {B : Bs} {k : List AI} {Q : Post} {fr : Fr} {σ : Heap}
theorem firstDead_no : ∀ (σ : Heap) (k : Nat), (∀ e ∈ σ, ∃ x, e.2 = some x) → firstDead σ k = none
  | [], _, _ => rfl
  | (v, y) :: r, k, h => by
    obtain ⟨x, hx⟩ := h (v, y) (List.mem_cons_self ..)
    have hx : y = some x := hx
    subst hx
    exact firstDead_no r (k + 1) (fun e he => h e (List.mem_cons_of_mem _ he))
end
end Go.Ab
end
section
set_option linter.unusedVariables false
set_option linter.unusedSimpArgs false
namespace Go.Ab
open Go
section
variable {cx : Cx} {n : Nat} {B : Bs} {k : List AI} {Q : Post} {fr : Fr} {σ : Heap}
def Alive (σ : Heap) : Prop := ∀ e ∈ σ, ∃ x, e.2 = some x
theorem Alive.app {σ : Heap} (h : Alive σ) (v : Nat) (x : Box) : Alive (σ ++ [(v, some x)]) := fun e he => by
  rcases List.mem_append.1 he with he | he
  · exact h e he
  · rw [List.mem_singleton.1 he]; exact ⟨x, rfl⟩
theorem Alive.set {σ : Heap} (h : Alive σ) (i v : Nat) (x : Box) : Alive (σ.set i (v, some x)) := fun e he => by
  rcases List.mem_or_eq_of_mem_set he with he | he
  · exact h e he
  · rw [he]; exact ⟨x, rfl⟩
theorem Alive.alloc {σ : Heap} (h : Alive σ) (x : Box) : allocH σ x = (σ.length, 0, σ ++ [(0, some x)]) := by unfold allocH; rw [firstDead_no σ 0 h]
theorem OpSpec.loadEA {o : Oper} {t : TypeId} {a : Operand} {m id ver off : Nat} {cs : List AV} {g : Tag} {x : AV} (ho : o.op = .load t a) (ha : aggT cx.P t = some true) (hm : szOf cx.P t = some m) (hea : ev cx fr a = .eptr id ver off)
    (hσ : σ[id]? = some (ver, some (.cells cs g))) (hl : m ≤ (cs.drop off).length) (hx : x = .agg ((cs.drop off).take m)) : OpSpec cx n fr σ o x σ := by
  intro r ac w hi hf
  refine loadA_run (C := [ver = ver, m ≤ (cs.drop off).length, x = .agg ((cs.drop off).take m)]) hi hf ?_ ⟨rfl, hl, hx, trivial⟩
  rw [ho]
  simp only [loadA, ha, hm, hea, boxAt, hσ, loadA.loadC]
theorem OpSpec.appendX {o : Oper} {s x : Operand} {t u : TypeId} {e sz by_ id ver off len : Nat} {st fl : Bool} {cs : List AV} {y : AV} {σ' : Heap} (ho : o.op = .call { callee := .builtin .append, args := #[s, x], argTypes := #[t, u] }) (hel : elemInfo cx.P t = some (e, sz, by_)) (hnt : notInt cx.P u = true)
    (hs : ev cx fr s = .ms id ver off len sz false) (hx : ev cx fr x = .sl st fl sz [y]) (hy : ∀ z ∈ flatA sz [y], z.one = true) (hσ : σ[id]? = some (ver, some (.cells cs ⟨false, none⟩))) (hl : off + len * sz = cs.length) (hb : (len + 1) * by_ ≤ 140737488355328) (hb2 : len + 1 ≤ 9223372036854775807)
    (hσ' : σ' = σ.set id (ver + 1, some (.cells (cs.drop off ++ flatA sz [y]) ⟨false, none⟩))) : OpSpec cx n fr σ o (.ms id (ver + 1) 0 (len + 1) sz false) σ' := by
  subst hσ'
  refine OpSpec.aop (C := [sz = sz, ∀ z ∈ flatA sz [y], z.one = true] ++ [∀ z ∈ flatA sz [y], z.one = true, ver = ver, sz = sz, off + len * sz = cs.length, (len + [y].length) * by_ ≤ 140737488355328, len + [y].length ≤ 9223372036854775807]) ?_ ⟨rfl, hy, hy, rfl, rfl, hl, hb, hb2, trivial⟩
  rw [ho]
  show aAppend cx.P t u (ev cx fr s) (ev cx fr x) σ = _
  rw [hs, hx]
  unfold aAppend
  rw [hel]
  have ht : tagOn cx.P e off ⟨false, none⟩ = ⟨false, none⟩ := by unfold tagOn; cases off <;> rfl
  simp only [hnt, cond_true, aSrc, hσ, ht, dropA_eq]
  rfl
end
end Go.Ab
end
section
set_option linter.unusedVariables false
set_option linter.unusedSimpArgs false
namespace Go.Ab
open Go
section
variable {cx : Cx} {n : Nat} {B : Bs} {k : List AI} {Q : Post} {fr : Fr} {σ : Heap}
theorem S_shareO {ι : Type} {all : Array Oper} {l : List Oper} {K : List Nat} {k' : List AI} (F : ι → Fr) (σ' : ι → Heap) (I : ι → Prop) (hm : (∀ i fr, I i → Weak fr (F i) → S cx n B (.ops all l K :: k') Q fr (σ' i)) → S cx n B k Q fr σ) (hk : ∀ i, I i → S cx n B (.ops all l K :: k') Q (F i) (σ' i)) : S cx n B k Q fr σ :=
  hm fun i _ hi hw => S_ops_weak hw (hk i hi)
end
end Go.Ab
end
section
set_option linter.unusedVariables false
set_option linter.unusedSimpArgs false
namespace Go.Ab
open Go
section
variable {cx : Cx} {n : Nat} {B : Bs} {k : List AI} {Q : Post} {fr : Fr} {σ : Heap}
theorem StepX.d {K : List Nat} {all : Array Oper} {o : Oper} {v : AV} (h : StepX cx n all σ σ K fr o v) : StepD cx n all σ K fr o v := by
  refine ⟨h.1, ?_⟩
  rcases h.2 with ⟨h1, h2, _⟩ | h1
  · exact .inl ⟨h1, h2⟩
  · exact .inr h1
end
end Go.Ab
end
section
set_option linter.unusedVariables false
set_option linter.unusedSimpArgs false
namespace Go.Ab
open Go
theorem AllP_app {C D : List Prop} (h : AllP C) (hd : AllP D) : AllP (C ++ D) := by
  induction C with
  | nil => exact hd
  | cons p r ih => exact ⟨h.1, ih h.2⟩
section
variable {cx : Cx} {n : Nat} {B : Bs} {k : List AI} {Q : Post} {fr : Fr} {σ : Heap}
theorem OpSpec.storeX {o : Oper} {t : TypeId} {a x : Operand} {m id ver off : Nat} {cs : List AV} {gT : Option TypeId} {y : AV} {σ' : Heap} (ho : o.op = .store t a x) (hm : szOf cx.P t = some m) (hea : ev cx fr a = .eptr id ver off) (hx : ev cx fr x = y) (hyc : y.cells.length = m) (hy : allOne y.cells = true)
    (hσ : σ[id]? = some (ver, some (.cells cs ⟨false, gT⟩))) (hoff : off + m ≤ cs.length) (hσ' : σ' = σ.set id (ver, some (.cells (setRange cs off y.cells) ⟨false, gT⟩))) : OpSpec cx n fr σ o (.tup []) σ' := by
  subst hσ'
  refine OpSpec.store (C := [y.cells.length = m, allOne y.cells = true, ver = ver, off + m ≤ cs.length]) ?_ ⟨hyc, hy, rfl, hoff, trivial⟩
  rw [ho]
  simp only [storeA, hm, hea, hσ, hx]
structure DelC (σ : Heap) (id ver i n : Nat) (cs : List AV) (sz : Nat) (id' ver' : Nat) (fl : Bool) (τ : Heap) : Prop where
  h : (i + 1 < n ∧ id' = σ.length ∧ ver' = 0 ∧ fl = false ∧ τ = [(0, some (.cells (cs.take (i * sz) ++ cs.drop ((i + 1) * sz)) ⟨false, none⟩))]) ∨ (i + 1 = n ∧ id' = id ∧ ver' = ver ∧ fl = true ∧ τ = [])
theorem DelC.place {σ τ : Heap} {id ver i n sz id' ver' : Nat} {cs : List AV} {fl : Bool} (h : DelC σ id ver i n cs sz id' ver' fl τ) : id' = id ∨ id' = σ.length := by
  rcases h.h with ⟨_, h1, _⟩ | ⟨_, h1, _⟩
  · exact .inr h1
  · exact .inl h1
theorem DelC.box {σ τ : Heap} {id ver i n sz id' ver' : Nat} {cs : List AV} {fl : Bool} (h : DelC σ id ver i n cs sz id' ver' fl τ) (hcs : cs.length = n * sz) (hσ : σ[id]? = some (ver, some (.cells cs ⟨false, none⟩))) :
    ∃ cs', (σ ++ τ)[id']? = some (ver', some (.cells cs' ⟨false, none⟩)) ∧ cs'.take ((n - 1) * sz) = cs.take (i * sz) ++ cs.drop ((i + 1) * sz) := by
  rcases h.h with ⟨hn, rfl, rfl, _, rfl⟩ | ⟨hn, rfl, rfl, _, rfl⟩
  · refine ⟨_, by simp, List.take_of_length_le ?_⟩
    rw [List.length_append, List.length_take, List.length_drop, hcs]
    have h1 : (i + 1) * sz + (n - (i + 1)) * sz = n * sz := by rw [← Nat.add_mul]; congr 1; omega
    have h2 : i * sz + (n - (i + 1)) * sz = (n - 1) * sz := by rw [← Nat.add_mul]; congr 1; omega
    have h3 : min (i * sz) (n * sz) ≤ i * sz := Nat.min_le_left ..
    omega
  · refine ⟨cs, by rw [List.append_nil]; exact hσ, ?_⟩
    subst hn
    rw [Nat.add_sub_cancel, List.drop_of_length_le (by omega), List.append_nil]
end
end Go.Ab
end
section
set_option linter.unusedVariables false
set_option linter.unusedSimpArgs false
namespace Go.Ab
open Go
theorem set_ne {σ : Heap} {i j : Nat} {x : Nat × Option Box} (h : i ≠ j) : (σ.set j x)[i]? = σ[i]? := by rw [List.getElem?_set, if_neg (Ne.symm h)]
theorem set_eq {σ : Heap} {j : Nat} {x y : Nat × Option Box} (h : σ[j]? = some y) : (σ.set j x)[j]? = some x := by
  have hi : j < σ.length := by
    rcases Nat.lt_or_ge j σ.length with h' | h'
    · exact h'
    · rw [List.getElem?_eq_none h'] at h; cases h
  simp [hi]
theorem lt_of_get {σ : Heap} {i : Nat} {y : Nat × Option Box} (h : σ[i]? = some y) : i < σ.length := by
  rcases Nat.lt_or_ge i σ.length with h' | h'
  · exact h'
  · rw [List.getElem?_eq_none h'] at h; cases h
theorem app_last {σ : Heap} {x : Nat × Option Box} : (σ ++ [x])[σ.length]? = some x := by simp
theorem alive_apps {σ τ : Heap} (h : Alive σ) (ht : Alive τ) : Alive (σ ++ τ) := fun e he => by
  rcases List.mem_append.1 he with he | he
  · exact h e he
  · exact ht e he
theorem apps_get {σ τ : Heap} {i : Nat} {y : Nat × Option Box} (h : σ[i]? = some y) : (σ ++ τ)[i]? = some y := by
  rw [List.getElem?_append_left (lt_of_get h)]; exact h
structure QKeep (σ σ' : Heap) (own own' : Nat → Prop) : Prop where
  len : σ.length ≤ σ'.length
  same : ∀ id, id < σ.length → ¬ own id → σ'[id]? = σ[id]?
  new : ∀ id, own' id → own id ∨ σ.length ≤ id
theorem QKeep.trans {σ σ1 σ2 : Heap} {o o1 o2 : Nat → Prop} (h : QKeep σ σ1 o o1) (h2 : QKeep σ1 σ2 o1 o2) : QKeep σ σ2 o o2 := by
  refine ⟨Nat.le_trans h.len h2.len, fun id hid hno => ?_, fun id hid => ?_⟩
  · have : ¬ o1 id := fun h1 => by
      rcases h.new id h1 with h3 | h3
      · exact hno h3
      · omega
    rw [h2.same id (Nat.lt_of_lt_of_le hid h.len) this, h.same id hid hno]
  · rcases h2.new id hid with h3 | h3
    · exact h.new id h3
    · exact .inr (Nat.le_trans h.len h3)
theorem QKeep.app {σ τ : Heap} {o : Nat → Prop} : QKeep σ (σ ++ τ) o o := ⟨by simp, fun id hid _ => List.getElem?_append_left hid, fun id h => .inl h⟩
theorem QKeep.refl {σ : Heap} {o : Nat → Prop} : QKeep σ σ o o := ⟨Nat.le_refl _, fun id hid _ => rfl, fun id h => .inl h⟩
theorem QKeep.set {σ σ' : Heap} {o o' : Nat → Prop} (h : QKeep σ σ' o o') {id : Nat} (hid : σ.length ≤ id) (x : Nat × Option Box) : QKeep σ (σ'.set id x) o o' :=
  ⟨by rw [List.length_set]; exact h.len, fun j hj hno => by rw [set_ne (by omega)]; exact h.same j hj hno, h.new⟩
theorem QKeep.own {σ σ' : Heap} {o o' o2 : Nat → Prop} (h : QKeep σ σ' o o') (h2 : ∀ id, o2 id → o' id ∨ σ.length ≤ id) : QKeep σ σ' o o2 :=
  ⟨h.len, h.same, fun id hid => (h2 id hid).elim (h.new id) .inr⟩
end Go.Ab
end
section
set_option linter.unusedVariables false
set_option linter.unusedSimpArgs false
set_option maxRecDepth 20000
set_option maxHeartbeats 2000000
namespace Go.Proofs.YtjkeekbfgnmngaaGreatDoor
open Go Go.Ab
def spoF : List AV := [.str [47, 47], .str [], .bool false]
def spoC (m : Nat) (cs : List AV) : List AV := (List.replicate m spoF).flatten ++ cs.drop (m * 3)
theorem spoC_len {m : Nat} {cs : List AV} (h : m * 3 ≤ cs.length) : (spoC m cs).length = cs.length := by
  unfold spoC
  rw [List.length_append, List.length_flatten, List.map_replicate, List.sum_replicate_nat, List.length_drop]
  show m * 3 + _ = _; omega
theorem spoC_one {m : Nat} {cs : List AV} (h : (m + 1) * 3 ≤ cs.length) : setRange (spoC m cs) (offN 0 (mulN ((m : Int)).toNat 3)) spoF = spoC (m + 1) cs := by
  rw [offN_eq, mulN_eq, Int.toNat_natCast, Nat.zero_add]
  have hl : (List.replicate m spoF).flatten.length = m * 3 := by rw [List.length_flatten, List.map_replicate, List.sum_replicate_nat]; rfl
  show (spoC m cs).take (m * 3) ++ spoF ++ (spoC m cs).drop (m * 3 + 3) = _
  unfold spoC
  rw [List.take_left' hl, ← List.drop_drop, List.drop_left' hl, List.drop_drop, List.replicate_succ', List.flatten_append, List.flatten_singleton, show (m + 1) * 3 = m * 3 + 3 by omega]
theorem spoilFiles_ok (σ : Heap) (id ver n : Nat) (cs : List AV) (g : Option TypeId) (hb : σ[id]? = some (ver, some (.cells cs ⟨false, g⟩))) (hn : cs.length = n * 3) (hn2 : n ≤ 1000000000) :
    CallOk cx 12 [.ms id ver 0 n 3 false] σ (fun o u => o = .ret (.tup []) ∧ u = σ.set id (ver, some (.cells (spoC n cs) ⟨false, g⟩))) :=
  callOk_intro (fun a w => Tryz.call12 a w) Tryz.func12 rfl Tryz.ntmps12 rfl fun B => by
    obtain ⟨zb, hzb⟩ : ∃ zb : Nat → Nat × Option Box, zb = fun m => (ver, some (.cells (spoC m cs) ⟨false, g⟩)) := ⟨_, rfl⟩
    have h0 : σ = σ.set id (zb 0) := by
      have : zb 0 = (ver, some (.cells cs ⟨false, g⟩)) := by rw [hzb]; rfl
      rw [this]
      apply List.ext_getElem?
      intro i
      by_cases hi : i = id
      · subst hi; rw [set_eq hb, hb]
      · rw [set_ne hi]
    refine pao [] rfl ?_ ?_
    · (repeat' with_reducible apply AllP_cons) <;> try exact aC
    refine S_while (α := Nat) (fun m => [(0, .ms id ver 0 n 3 false), (2, .int .i64 (m : Nat))]) (fun m => σ.set id (zb m)) (fun m => m ≤ n) (fun m => n - m) 0
      (Nat.zero_le _) (.cons rfl (.cons rfl (.nil _))) h0 ?_
    intro m hm
    have hbm : (σ.set id (zb m))[id]? = some (ver, some (.cells (spoC m cs) ⟨false, g⟩)) := by rw [set_eq hb, hzb]
    by_cases hlt : m < n
    · have e1 : decide ((m : Int) < (n : Int)) = true := decide_eq_true (by omega)
      have hm1 : AV.int .i64 (IntKind.i64.wrap ((m : Int) + 1)) = .int .i64 ((m + 1 : Nat) : Int) := ai64 rfl (by omega)
      refine pao [.b true, .v .top, .f (.tup []) (fun _ => σ.set id (zb (m + 1)))] rfl ?_ ?_
      · (repeat' with_reducible apply AllP_cons) <;> try exact aC
        · refine OpSpec.storeX (id := id) (ver := ver) (m := 3) (gT := g) (cs := spoC m cs) (y := .agg spoF) rfl rfl rfl rfl rfl rfl hbm ?_ ?_
          · rw [spoC_len (by omega), hn]
            show offN 0 (mulN ((m : Int)).toNat 3) + 3 ≤ _
            rw [offN_eq, mulN_eq, Int.toNat_natCast]; omega
          · rw [List.set_set, hzb]
            show _ = σ.set id (ver, some (.cells (setRange (spoC m cs) (offN 0 (mulN ((m : Int)).toNat 3)) spoF) ⟨false, g⟩))
            rw [spoC_one (by omega)]
      exact S_round (m + 1) (by show n - (m + 1) < n - m; omega) hlt (.cons rfl (.cons hm1 (.nil _))) rfl
    · obtain rfl : m = n := by have : m ≤ n := hm; omega
      have e1 : decide ((m : Int) < (m : Int)) = false := decide_eq_false (by omega)
      refine pao [.b false] rfl ?_ ?_
      · (repeat' with_reducible apply AllP_cons) <;> try exact aC
      exact S_nil ⟨_, _, rfl, trivial, rfl, by rw [hzb]⟩
def spoT : AV := .str [115, 112, 111, 105, 108, 116]
def spoD (m : Nat) (cs : List AV) : List AV := List.replicate m spoT ++ cs.drop m
theorem spoD_len {m : Nat} {cs : List AV} (h : m ≤ cs.length) : (spoD m cs).length = cs.length := by
  unfold spoD
  rw [List.length_append, List.length_replicate, List.length_drop]; omega
theorem spoD_one {m : Nat} {cs : List AV} (h : m < cs.length) : setRange (spoD m cs) (offN 0 (mulN ((m : Int)).toNat 1)) [spoT] = spoD (m + 1) cs := by
  rw [offN_eq, mulN_eq, Int.toNat_natCast, Nat.zero_add, Nat.mul_one]
  show (spoD m cs).set m spoT = _
  unfold spoD
  rw [List.set_append_right _ _ (by simp), List.length_replicate, Nat.sub_self, List.drop_eq_getElem_cons h, List.set_cons_zero, List.replicate_succ', List.append_assoc]
  rfl
theorem spoilTexts_ok (σ : Heap) (id ver n : Nat) (cs : List AV) (g : Option TypeId) (hb : σ[id]? = some (ver, some (.cells cs ⟨false, g⟩))) (hn : cs.length = n) (hn2 : n ≤ 1000000000) :
    CallOk cx 13 [.ms id ver 0 n 1 false] σ (fun o u => o = .ret (.tup []) ∧ u = σ.set id (ver, some (.cells (spoD n cs) ⟨false, g⟩))) :=
  callOk_intro (fun a w => Tryz.call13 a w) Tryz.func13 rfl Tryz.ntmps13 rfl fun B => by
    obtain ⟨zb, hzb⟩ : ∃ zb : Nat → Nat × Option Box, zb = fun m => (ver, some (.cells (spoD m cs) ⟨false, g⟩)) := ⟨_, rfl⟩
    have h0 : σ = σ.set id (zb 0) := by
      have : zb 0 = (ver, some (.cells cs ⟨false, g⟩)) := by rw [hzb]; rfl
      rw [this]
      apply List.ext_getElem?
      intro i
      by_cases hi : i = id
      · subst hi; rw [set_eq hb, hb]
      · rw [set_ne hi]
    refine pao [] rfl ?_ ?_
    · (repeat' with_reducible apply AllP_cons) <;> try exact aC
    refine S_while (α := Nat) (fun m => [(0, .ms id ver 0 n 1 false), (2, .int .i64 (m : Nat))]) (fun m => σ.set id (zb m)) (fun m => m ≤ n) (fun m => n - m) 0
      (Nat.zero_le _) (.cons rfl (.cons rfl (.nil _))) h0 ?_
    intro m hm
    have hbm : (σ.set id (zb m))[id]? = some (ver, some (.cells (spoD m cs) ⟨false, g⟩)) := by rw [set_eq hb, hzb]
    by_cases hlt : m < n
    · have e1 : decide ((m : Int) < (n : Int)) = true := decide_eq_true (by omega)
      have hm1 : AV.int .i64 (IntKind.i64.wrap ((m : Int) + 1)) = .int .i64 ((m + 1 : Nat) : Int) := ai64 rfl (by omega)
      refine pao [.b true, .v .top, .f (.tup []) (fun _ => σ.set id (zb (m + 1)))] rfl ?_ ?_
      · (repeat' with_reducible apply AllP_cons) <;> try exact aC
        · refine OpSpec.storeX (id := id) (ver := ver) (m := 1) (gT := g) (cs := spoD m cs) (y := spoT) rfl rfl rfl rfl rfl rfl hbm ?_ ?_
          · rw [spoD_len (by omega), hn]
            show offN 0 (mulN ((m : Int)).toNat 1) + 1 ≤ _
            rw [offN_eq, mulN_eq, Int.toNat_natCast]; omega
          · rw [List.set_set, hzb]
            show _ = σ.set id (ver, some (.cells (setRange (spoD m cs) (offN 0 (mulN ((m : Int)).toNat 1)) [spoT]) ⟨false, g⟩))
            rw [spoD_one (by omega)]
      exact S_round (m + 1) (by show n - (m + 1) < n - m; omega) hlt (.cons rfl (.cons hm1 (.nil _))) rfl
    · obtain rfl : m = n := by have : m ≤ n := hm; omega
      have e1 : decide ((m : Int) < (m : Int)) = false := decide_eq_false (by omega)
      refine pao [.b false] rfl ?_ ?_
      · (repeat' with_reducible apply AllP_cons) <;> try exact aC
      exact S_nil ⟨_, _, rfl, trivial, rfl, by rw [hzb]⟩
end Go.Proofs.YtjkeekbfgnmngaaGreatDoor
end
section
set_option linter.unusedVariables false
set_option linter.unusedSimpArgs false
set_option maxRecDepth 20000
set_option maxHeartbeats 4000000
namespace Go.Proofs.YtjkeekbfgnmngaaGreatDoor
open Go Go.Ab
def h1T : List UInt8 := [50, 100, 55, 49, 49, 54, 52, 50, 98, 55, 50, 54, 98, 48, 52, 52, 48, 49, 54, 50, 55, 99, 97, 57, 102, 98, 97, 99, 51, 50, 102, 53, 99, 56, 53, 51, 48, 102, 98, 49, 57, 48, 51, 99, 99, 52, 100, 98, 48, 50, 50, 53, 56, 55, 49, 55, 57, 50, 49, 97, 52, 56, 56, 49]
def t1T : List UInt8 := [1, 1, 98, 1, 64, 50, 100, 55, 49, 49, 54, 52, 50, 98, 55, 50, 54, 98, 48, 52, 52, 48, 49, 54, 50, 55, 99, 97, 57, 102, 98, 97, 99, 51, 50, 102, 53, 99, 56, 53, 51, 48, 102, 98, 49, 57, 48, 51, 99, 99, 52, 100, 98, 48, 50, 50, 53, 56, 55, 49, 55, 57, 50, 49, 97, 52, 56, 56, 49]
def h2T : List UInt8 := [100, 56, 98, 99, 99, 98, 53, 99, 97, 99, 48, 101, 52, 50, 49, 101, 97, 52, 101, 49, 55, 99, 50, 49, 50, 49, 102, 51, 56, 55, 52, 51, 48, 57, 102, 98, 51, 101, 51, 100, 48, 50, 48, 53, 52, 97, 48, 54, 48, 101, 102, 50, 101, 48, 48, 49, 99, 56, 53, 97, 53, 99, 48, 99]
def t2T : List UInt8 := [1, 1, 97, 3, 64, 100, 56, 98, 99, 99, 98, 53, 99, 97, 99, 48, 101, 52, 50, 49, 101, 97, 52, 101, 49, 55, 99, 50, 49, 50, 49, 102, 51, 56, 55, 52, 51, 48, 57, 102, 98, 51, 101, 51, 100, 48, 50, 48, 53, 52, 97, 48, 54, 48, 101, 102, 50, 101, 48, 48, 49, 99, 56, 53, 97, 53, 99, 48, 99]
def h3T : List UInt8 := [48, 54, 55, 52, 52, 101, 54, 57, 101, 102, 98, 53, 56, 53, 102, 48, 50, 54, 48, 51, 98, 101, 52, 48, 57, 102, 56, 98, 101, 55, 51, 100, 50, 54, 51, 53, 50, 55, 56, 51, 50, 102, 55, 52, 54, 55, 50, 97, 51, 55, 57, 98, 53, 101, 52, 101, 55, 101, 102, 49, 50, 50, 99, 98]
def l0T : List Fil := [⟨[97, 47, 98], [120], false⟩]
theorem sha1T : sha [120] = h1T := by decide +kernel
theorem sha2T : sha t1T = h2T := by decide +kernel
theorem sha3T : sha t2T = h3T := by decide +kernel
theorem pk1T : packNs [⟨[98], 1, h1T⟩] = t1T := by decide +kernel
theorem pk2T : packNs [⟨[97], 3, h2T⟩] = t2T := by decide +kernel
theorem rd1T : readNd t1T = ([⟨[98], 1, h1T⟩], 0) := by kernel_rfl
theorem rd2T : readNd t2T = ([⟨[97], 3, h2T⟩], 0) := by kernel_rfl
theorem chk0T : chkT l0T = 0 := by decide +kernel
theorem sort_one (n : List UInt8) : sortT [n] = [n] := by unfold sortT; rw [List.mergeSort_singleton]
theorem dir0T : dirT 101 l0T = (t2T, [[120], t1T]) := by
  have a1 : nmsT l0T = [[97]] := by decide +kernel
  have a2 : grT l0T [97] = [⟨[98], [120], false⟩] := by decide +kernel
  have a3 : nmsT [⟨[98], [120], false⟩] = [[98]] := by decide +kernel
  have a4 : grT [⟨[98], [120], false⟩] [98] = [⟨[], [120], false⟩] := by decide +kernel
  have e1 : dirT 100 [⟨[98], [120], false⟩] = (t1T, [[120]]) := by
    rw [dirT, a3, sort_one]
    unfold nodsT blbsT
    simp only [List.map_cons, List.map_nil, List.flatMap_cons, List.flatMap_nil, List.append_nil, a4, entT, if_pos, sha1T]
    exact Prod.ext pk1T rfl
  rw [dirT, a1, sort_one]
  unfold nodsT blbsT
  simp only [List.map_cons, List.map_nil, List.flatMap_cons, List.flatMap_nil, List.append_nil, a2, entT, e1]
  rw [if_neg (by decide), sha2T]
  exact Prod.ext pk2T rfl
theorem root0T : rootT l0T = h3T := by unfold rootT; rw [dir0T]; exact sha3T
theorem blob0T : blobT l0T = [t2T, t1T, [120]] := by
  unfold blobT
  rw [dir0T]
  have : addU ([[120], t1T].foldl addU []) t2T = [[120], t1T, t2T] := by decide +kernel
  show sortT (addU ([[120], t1T].foldl addU []) t2T) = _
  rw [this]
  refine perm_sorted ((sortT_perm _).trans ?_) (sortT_pw _) ?_
  · exact (List.reverse_perm [[120], t1T, t2T]).symm
  · decide +kernel
theorem ks0T : ksB [t2T, t1T, [120]] = [h3T, h2T, h1T] := by
  unfold ksB
  simp only [List.foldl_cons, List.foldl_nil, sha1T, sha2T, sha3T]
  decide +kernel
theorem tx3T : txB [t2T, t1T, [120]] h3T = t2T := by
  have b1 : (h1T == h3T) = false := by decide +kernel
  have b2 : (h2T == h3T) = false := by decide +kernel
  have b3 : (h3T == h3T) = true := by decide +kernel
  unfold txB
  simp only [List.reverse_cons, List.reverse_nil, List.nil_append, List.cons_append, List.find?_cons, sha1T, sha2T, sha3T, b1, b2, b3]
  rfl
theorem tx2T : txB [t2T, t1T, [120]] h2T = t1T := by
  have b1 : (h1T == h2T) = false := by decide +kernel
  have b2 : (h2T == h2T) = true := by decide +kernel
  unfold txB
  simp only [List.reverse_cons, List.reverse_nil, List.nil_append, List.cons_append, List.find?_cons, sha1T, sha2T, sha3T, b1, b2]
  rfl
theorem tx1T : txB [t2T, t1T, [120]] h1T = [120] := by
  have b1 : (h1T == h1T) = true := by decide +kernel
  unfold txB
  simp only [List.reverse_cons, List.reverse_nil, List.nil_append, List.cons_append, List.find?_cons, sha1T, b1]
  rfl
theorem flat0T : flatY h3T [t2T, t1T, [120]] = (l0T, 0) := by
  have g3 : getM (ksB [t2T, t1T, [120]]) (txB [t2T, t1T, [120]]) h3T = some t2T := by unfold getM; rw [ks0T, if_pos (by simp), tx3T]
  have g2 : getM (ksB [t2T, t1T, [120]]) (txB [t2T, t1T, [120]]) h2T = some t1T := by unfold getM; rw [ks0T, if_pos (by simp), tx2T]
  have g1 : getM (ksB [t2T, t1T, [120]]) (txB [t2T, t1T, [120]]) h1T = some [120] := by unfold getM; rw [ks0T, if_pos (by simp), tx1T]
  unfold flatY
  generalize getM (ksB [t2T, t1T, [120]]) (txB [t2T, t1T, [120]]) = get at *
  have e1 : flatD get 101 h2T [97, 47] [] = (l0T, 0) := by
    rw [flatD, g2]
    simp only [rd1T]
    rw [if_neg (by decide), if_neg (by simp), flatN]
    rw [if_neg (by decide), if_neg (by decide)]
    simp only [g1]
    rw [if_neg (by decide), flatN]; rfl
  rw [flatD, g3]
  simp only [rd2T]
  rw [if_neg (by decide), if_neg (by simp), flatN]
  rw [if_neg (by decide), if_pos rfl]
  show (if (flatD get 101 h2T [97, 47] []).2 = 0 then _ else _) = _
  rw [e1, if_pos rfl, flatN]
  show ((flatD get 101 h2T [97, 47] []).1, 0) = _
  rw [e1]
theorem treeBegun_ok : Calc cx 5 [] (.bool true) :=
  pure_intro (fun a w => Tryz.call5 a w) Tryz.func5 rfl Tryz.ntmps5 rfl .bool fun B => by
    have hl0 : FilsOk l0T := ⟨by decide, by intro f hf; simp [l0T] at hf; subst hf; decide, by intro f hf; simp [l0T] at hf; subst hf; decide⟩
    have hB := Blobs_ok (st := true) (fl := true) l0T hl0
    have hR := Root_ok (st := true) (fl := true) l0T hl0
    have hF := Flat_gen (st := true) (fl := false) id h3T [t2T, t1T, [120]] (by decide) (by decide) (fun _ => rfl) (fun _ => by
      rw [flat0T]
      exact Sort1_ok (ksB [t2T, t1T, [120]]) (txB [t2T, t1T, [120]]) 0 ⟨[97, 47, 98], [120], false⟩)
    have hS := SameFiles_ok (st := true) (st' := true) (fl := true) (fl' := false) l0T l0T (by decide) (by decide)
    rw [decide_eq_true rfl] at hS
    unfold blobAV at hB
    unfold rootAV at hR
    rw [chk0T, if_pos rfl, blob0T] at hB
    rw [chk0T, if_pos rfl, root0T] at hR
    have hft : flatT id h3T [t2T, t1T, [120]] = (l0T, 0) := by
      unfold flatT
      rw [if_neg (by decide +kernel), if_pos (by decide +kernel), flat0T, if_pos rfl]; rfl
    rw [hft] at hF
    refine pa [.v (.tup [.sl true false 1 (texts [t2T, t1T, [120]]), .int .i64 ((0 : Nat) : Int)]), .v (.tup [.str h3T, .int .i64 ((0 : Nat) : Int)]), .v (.tup [.sl true false 3 (fils l0T), .int .i64 ((0 : Nat) : Int)]), .b true, .b true, .b true, .v (.bool true)] rfl ?_ ?_
    · (repeat' with_reducible apply AllP_cons) <;> try exact aC
      · exact ⟨_, hB, .cons (.refl (.sl (fun _ => rfl) (fils_free l0T))) (.nil _)⟩
      · exact ⟨_, hR, .cons (.refl (.sl (fun _ => rfl) (fils_free l0T))) (.nil _)⟩
      · exact ⟨_, hF, .cons (.refl .str) (.cons (.refl (.sl (fun _ => rfl) (texts_any _))) (.nil _))⟩
      · exact ⟨_, hS, .cons (.refl (.sl (fun _ => rfl) (fils_free l0T))) (.cons (.refl (.sl (fun _ => rfl) (fils_free l0T))) (.nil _))⟩
    exact S_retc .bool rfl trivial rfl
end Go.Proofs.YtjkeekbfgnmngaaGreatDoor
end
section
set_option linter.unusedVariables false
set_option linter.unusedSimpArgs false
namespace Go.Ab
open Go Go.WideShapes
def laidB (P : Program) : List Field → Nat → Option Nat
  | [], o => some o
  | f :: r, o => match Nat.beq f.offset o with
    | true => laidB P r (o + P.cellsOf f.type)
    | false => none
mutual
def plainB (P : Program) : Nat → TypeId → Bool
  | 0, _ => false
  | n + 1, t => match P.underlying t with
    | some .bool => Nat.beq (P.cellsOf t) 1
    | some (.int _) => Nat.beq (P.cellsOf t) 1
    | some .string => Nat.beq (P.cellsOf t) 1
    | some (.slice e) => match Nat.beq (P.cellsOf t) 1, Nat.beq (P.cellsOf e) 0 with
      | true, false => plainB P n e
      | _, _ => false
    | some (.struct fs) => match laidB P fs.toList 0 with
      | some m => match Nat.beq (P.cellsOf t) m with
        | true => plainAll P n fs.toList
        | false => false
      | none => false
    | _ => false
def plainAll (P : Program) : Nat → List Field → Bool
  | 0, _ => false
  | n + 1, fs => match fs with
    | [] => true
    | f :: r => match plainB P n f.type with
      | true => plainAll P n r
      | false => false
end
inductive RdD (P : Program) {H : Type} : TypeId → DataW H → AV → Prop
  | bool {t b} (ht : P.underlying t = some .bool) : RdD P t (.lit (.bool b)) (.bool b)
  | int {t k n} (ht : P.underlying t = some (.int k)) (hw : (Lit.int k n).wf = true) : RdD P t (.lit (.int k n)) (.int k n)
  | str {t s} (ht : P.underlying t = some .string) (hs : s.length ≤ maxLen) : RdD P t (.lit (.string s)) (.str s)
  | nils {t e} (ht : P.underlying t = some (.slice e)) : RdD P t .nil (.sl true false (P.cellsOf e) [])
  | sl {t e} {ds rest : List (DataW H)} {xs : List AV} (ht : P.underlying t = some (.slice e)) (hl : xs.length = ds.length) (hm : xs.length ≤ maxLen) (h : ∀ i (h1 : i < ds.length) (h2 : i < xs.length), RdD P e ds[i] xs[i]) : RdD P t (.slice ds rest) (.sl true false (P.cellsOf e) xs)
  | st {t} {fs : Array Field} {ds : List (DataW H)} {xs : List AV} (ht : P.underlying t = some (.struct fs)) (hd : ds.length = fs.size) (hx : xs.length = fs.size) (h : ∀ i (h1 : i < ds.length) (h2 : i < xs.length) (h3 : i < fs.size), RdD P fs[i].type ds[i] xs[i]) : RdD P t (.agg ds) (.agg (xs.flatMap AV.cells))
def CellsV (w : World) (cs : List Value) (az : List AV) : Prop := cs.length = az.length ∧ ∀ i (h1 : i < cs.length) (h2 : i < az.length), VRel (Rl.old w) w cs[i] az[i]
theorem CellsV.one {w : World} {v : Value} {a : AV} (h : VRel (Rl.old w) w v a) : CellsV w [v] [a] := by
  refine ⟨rfl, fun i h1 h2 => ?_⟩
  obtain rfl : i = 0 := by simpa using h1
  exact h
theorem laidB_flat {P : Program} : ∀ (fs : List Field) (o m : Nat) (w : World) (cs : List Value) (xs : List AV), laidB P fs o = some m → xs.length = fs.length → (∀ i (h1 : i < fs.length) (h2 : i < xs.length), CellsV w ((cs.drop fs[i].offset).take (P.cellsOf fs[i].type)) xs[i].cells ∧ xs[i].cells.length = P.cellsOf fs[i].type) →
    cs.length = m → o ≤ m ∧ CellsV w (cs.drop o) (xs.flatMap AV.cells)
  | [], o, m, w, cs, xs, h, hl, hc, hm => by
    simp only [laidB, Option.some.injEq] at h
    obtain rfl : xs = [] := List.eq_nil_of_length_eq_zero hl
    subst h
    refine ⟨Nat.le_refl _, ?_⟩
    rw [List.drop_of_length_le (by omega)]
    exact ⟨rfl, fun i h => absurd h (by simp)⟩
  | f :: r, o, m, w, cs, xs, h, hl, hc, hm => by
    rw [laidB] at h
    split at h
    case h_2 => cases h
    rename_i hb
    have ho := Nat.eq_of_beq_eq_true hb
    obtain ⟨x, xs, rfl⟩ : ∃ x xs', xs = x :: xs' := by
      cases xs with
      | nil => simp at hl
      | cons x xs => exact ⟨x, xs, rfl⟩
    have h0 := hc 0 (by simp) (by simp)
    simp only [List.getElem_cons_zero] at h0
    obtain ⟨h1, h2⟩ := laidB_flat r (o + P.cellsOf f.type) m w cs xs h (by simpa using hl) (fun i k1 k2 => hc (i + 1) (Nat.succ_lt_succ k1) (Nat.succ_lt_succ k2)) hm
    refine ⟨by omega, ?_⟩
    obtain ⟨⟨e1, e2⟩, e3⟩ := h0
    rw [ho] at e1 e2
    rw [List.flatMap_cons]
    have hsplit : cs.drop o = (cs.drop o).take (P.cellsOf f.type) ++ cs.drop (o + P.cellsOf f.type) := by
      rw [← List.drop_drop, List.take_append_drop]
    rw [hsplit]
    refine ⟨by rw [List.length_append, List.length_append, e1, h2.1], fun i k1 k2 => ?_⟩
    by_cases hi : i < x.cells.length
    · rw [List.getElem_append_left (by omega), List.getElem_append_left hi]
      exact e2 i (by omega) hi
    · rw [List.getElem_append_right (by omega), List.getElem_append_right (by omega)]
      have : i - ((cs.drop o).take (P.cellsOf f.type)).length = i - x.cells.length := by omega
      simp only [this]
      exact h2.2 _ _ _
theorem read_cells {H : Type} {enc : TypeId × Value → H} {P : Program} {W : World} : ∀ (fuel n : Nat) (t : TypeId) (cs : List Value) (d : DataW H) (ps : List MemPlace), DataW.trod enc P W 0 (fun _ => true) true fuel t cs = some (d, ps) → plainB P n t = true →
    ∃ a, RdD P t d a ∧ a.cells.length = P.cellsOf t ∧ CellsV W cs a.cells ∧ (∀ v, (∃ xs, v = .agg xs ∧ xs.toList = cs ∧ aggT P t = some true) ∨ ([v] = cs ∧ aggT P t = some false) → VRel (Rl.old W) W v a) := by
  intro fuel
  induction fuel with
  | zero => intro n t cs d ps h _; simp [DataW.trod] at h
  | succ fuel ih =>
    intro n t cs d ps h hp
    have hall : ∀ (n : Nat) (fs : List Field), plainAll P n fs = true → ∀ i (hi : i < fs.length), ∃ m, plainB P m fs[i].type = true := by
      intro n
      induction n with
      | zero => intro fs h; simp [plainAll] at h
      | succ n ihn =>
        intro fs h i hi
        cases fs with
        | nil => simp at hi
        | cons f r =>
          rw [plainAll] at h
          split at h
          · rename_i hb
            cases i with
            | zero => exact ⟨n, hb⟩
            | succ i => exact ihn r h i (by simpa using hi)
          · cases h
    cases n with
    | zero => simp [plainB] at hp
    | succ n =>
      rw [plainB] at hp
      split at hp
      ·
        rename_i ht
        obtain ⟨b, rfl, hx⟩ := DataW.trod_bool ht h
        cases hx
        refine ⟨.bool b, .bool ht, (Nat.eq_of_beq_eq_true hp).symm, .one .bool, ?_⟩
        rintro v (⟨xs, rfl, h1, h2⟩ | ⟨h1, h2⟩)
        · simp [aggT, ht] at h2
        · cases h1; exact .bool
      · rename_i k ht
        obtain ⟨m, rfl, hx, hw⟩ := DataW.trod_int ht h
        cases hx
        refine ⟨.int _ m, .int ht hw, (Nat.eq_of_beq_eq_true hp).symm, .one .int, ?_⟩
        rintro v (⟨xs, rfl, h1, h2⟩ | ⟨h1, h2⟩)
        · simp [aggT, ht] at h2
        · cases h1; exact .int
      · rename_i ht
        obtain ⟨s, rfl, hx, hw⟩ := DataW.trod_string ht h
        cases hx
        refine ⟨.str s.data.toList, .str ht (by rw [Array.length_toList]; exact hw), (Nat.eq_of_beq_eq_true hp).symm, .one (.str rfl), ?_⟩
        rintro v (⟨xs, rfl, h1, h2⟩ | ⟨h1, h2⟩)
        · simp [aggT, ht] at h2
        · cases h1; exact .str rfl
      ·
        rename_i e ht
        split at hp
        case h_2 => cases hp
        rename_i hc1 hc0
        have hc1 := Nat.eq_of_beq_eq_true hc1
        have hpos : 0 < P.cellsOf e := by
          rcases Nat.eq_zero_or_pos (P.cellsOf e) with h0 | h0
          · rw [h0] at hc0; cases hc0
          · exact h0
        rcases DataW.trod_slice ht h with ⟨rfl, hx⟩ | ⟨a, len, cap, elems, rest, fu, hfu, rfl, hx, _, hl, hm, hlen, hel, hsp, hns⟩
        · cases hx
          refine ⟨_, .nils ht, hc1.symm, .one (.sl0 (fun h => by cases h)), ?_⟩
          rintro v (⟨xs, rfl, h1, h2⟩ | ⟨h1, h2⟩)
          · simp [aggT, ht] at h2
          · cases h1; exact .sl0 (fun h => by cases h)
        · cases hx
          obtain rfl : fuel = fu := by omega
          have each : ∀ i (hi : i < elems.length), ∃ x, RdD P e (elems[i]).1 x ∧ x.cells.length = P.cellsOf e ∧ ∃ ecs : List Value, W.cells? 0 (a.add (i * P.cellsOf e)) (P.cellsOf e) = some ecs ∧ CellsV W ecs x.cells := by
            intro i hi
            have h1 := hel i (by omega)
            rw [List.getElem?_eq_getElem hi, Option.bind_eq_some_iff] at h1
            obtain ⟨ecs, h2, h3⟩ := h1
            obtain ⟨x, k1, k2, k3, _⟩ := ih n e ecs (elems[i]).1 (elems[i]).2 h3 hp
            exact ⟨x, k1, k2, ecs, h2, k3⟩
          have : ∃ xs : List AV, xs.length = elems.length ∧ ∀ i (hi : i < elems.length) (hx : i < xs.length), RdD P e (elems[i]).1 xs[i] ∧ xs[i].cells.length = P.cellsOf e ∧ ∃ ecs : List Value, W.cells? 0 (a.add (i * P.cellsOf e)) (P.cellsOf e) = some ecs ∧ CellsV W ecs xs[i].cells := by
            refine ⟨(List.finRange elems.length).map fun i => Classical.choose (each i.1 i.2), by simp, fun i hi hx => ?_⟩
            simp only [List.getElem_map, List.getElem_finRange]
            exact Classical.choose_spec (each i hi)
          obtain ⟨xs, hxl, hxs⟩ := this
          have hv : VRel (Rl.old W) W (.slice (some a) len cap) (.sl true false (P.cellsOf e) xs) := by
            rcases Nat.eq_zero_or_pos len with h0 | h0
            · subst h0
              obtain rfl : xs = [] := List.eq_nil_of_length_eq_zero (by omega)
              exact .sl0 (fun h => by cases h)
            · obtain ⟨b, o, sp⟩ := a
              obtain ⟨_, _, ecs0, hc, _⟩ := hxs 0 (by omega) (by omega)
              obtain ⟨_, hcl, hcc⟩ := World.cells?_some hc
              have hcell0 := hcc 0 hpos
              rw [List.getElem?_eq_getElem (by omega)] at hcell0
              have hsp : sp = none := by
                cases sp with
                | none => rfl
                | some s =>
                  simp [Addr.add, World.cell?] at hcell0
                  split at hcell0 <;> cases hcell0
              subst hsp
              have hb : b < W.heap.size := by
                rw [Addr.add_lit] at hcell0
                rcases Nat.lt_or_ge b W.heap.size with h | h
                · exact h
                · simp [World.cell?, Addr.add, Array.getElem?_eq_none h] at hcell0
              have hcel : ∀ i, i < xs.length → ∀ j, j < P.cellsOf e → ∃ v, W.cell? ⟨b, o + i * P.cellsOf e + j, none⟩ = some v ∧ ∀ (hi : i < xs.length) (hj : j < (AV.cells xs[i]).length), VRel (Rl.old W) W v (AV.cells xs[i])[j] := by
                intro i hi j hj
                obtain ⟨_, hxc, ecs, hc, hcv⟩ := hxs i (by omega) hi
                obtain ⟨_, hcl, hcc⟩ := World.cells?_some hc
                have h1 := hcc j hj
                rw [List.getElem?_eq_getElem (by omega)] at h1
                rw [Addr.add_lit, Addr.add_lit] at h1
                refine ⟨ecs[j], h1, fun _ hj' => hcv.2 j _ hj'⟩
              refine .sl (by omega) hl (fun h => by cases h) hb (fun _ => hb) (fun x hx => ?_) (fun i j => (W.cell? ⟨b, o + i * P.cellsOf e + j, none⟩).getD undef) (fun i hi j hj => ?_) (fun i hi j hj => ?_)
              · obtain ⟨i, hi, rfl⟩ := List.getElem_of_mem hx
                exact (hxs i (by omega) hi).2.1
              · obtain ⟨v, h1, _⟩ := hcel i hi j hj
                rw [h1]; rfl
              · obtain ⟨v, h1, h2⟩ := hcel i hi j (by rw [(hxs i (by omega) hi).2.1] at hj; exact hj)
                rw [h1]
                exact h2 hi hj
          refine ⟨.sl true false (P.cellsOf e) xs, .sl ht (by simp [hxl]) (by omega) (fun i h1 h2 => by simpa using (hxs i (by simpa using h1) h2).1), hc1.symm, .one hv, ?_⟩
          rintro v (⟨ys, rfl, h1, h2⟩ | ⟨h1, h2⟩)
          · simp [aggT, ht] at h2
          · cases h1; exact hv
      ·
        rename_i fs ht
        split at hp
        case h_2 => cases hp
        rename_i m hm
        split at hp
        case h_2 => cases hp
        rename_i hcm
        have hcm := Nat.eq_of_beq_eq_true hcm
        obtain ⟨ys, fu, hfu, hx, hl, hyl, hy⟩ := DataW.trod_struct ht h
        obtain rfl : fuel = fu := by omega
        cases hx
        have each : ∀ i (hi : i < fs.toList.length) (hi' : i < ys.length), ∃ x, RdD P (fs.toList[i]).type (ys[i]).1 x ∧ x.cells.length = P.cellsOf (fs.toList[i]).type ∧ CellsV W ((cs.drop (fs.toList[i]).offset).take (P.cellsOf (fs.toList[i]).type)) x.cells := by
          intro i hi hi'
          have h1 := hy i (fs.toList[i]) (by simp at hi; simp [hi])
          rw [List.getElem?_eq_getElem hi'] at h1
          obtain ⟨k, hk⟩ := hall n fs.toList hp i hi
          obtain ⟨x, k1, k2, k3, _⟩ := ih k _ _ (ys[i]).1 (ys[i]).2 h1 hk
          exact ⟨x, k1, k2, k3⟩
        have hfl : fs.toList.length = ys.length := by simp [hyl]
        have : ∃ xs : List AV, xs.length = fs.toList.length ∧ ∀ i (hi : i < fs.toList.length) (hi' : i < ys.length) (hx : i < xs.length), RdD P (fs.toList[i]).type (ys[i]).1 xs[i] ∧ xs[i].cells.length = P.cellsOf (fs.toList[i]).type ∧ CellsV W ((cs.drop (fs.toList[i]).offset).take (P.cellsOf (fs.toList[i]).type)) xs[i].cells := by
          refine ⟨(List.finRange fs.toList.length).map fun i => Classical.choose (each i.1 i.2 (by omega)), by simp, fun i hi hi' hx => ?_⟩
          simp only [List.getElem_map, List.getElem_finRange]
          exact Classical.choose_spec (each i hi hi')
        obtain ⟨xs, hxl, hxs⟩ := this
        obtain ⟨_, hcv⟩ := laidB_flat fs.toList 0 m W cs xs hm hxl (fun i h1 h2 => ⟨(hxs i h1 (by omega) h2).2.2, (hxs i h1 (by omega) h2).2.1⟩) (by omega)
        rw [List.drop_zero] at hcv
        refine ⟨.agg (xs.flatMap AV.cells), .st ht (by simp [hyl]) (by simpa using hxl) (fun i h1 h2 h3 => by
          have := (hxs i (by simpa using h3) (by simpa using h1) h2).1
          simp only [Array.getElem_toList, List.getElem_map] at this ⊢
          exact this), by show (xs.flatMap AV.cells).length = _; rw [← hcv.1]; omega, hcv, ?_⟩
        rintro v (⟨zs, rfl, h1, h2⟩ | ⟨h1, h2⟩)
        · refine .agg (by rw [← hcv.1, ← h1]; simp) (fun i hi => ?_)
          have h3 : i < cs.length := by rw [hcv.1]; exact hi
          have := hcv.2 i h3 hi
          subst h1
          rw [Array.getD_eq_getD_getElem?, Array.getElem?_eq_getElem (by simpa using h3)]
          simpa using this
        · simp [aggT, ht] at h2
      · cases hp
theorem read_plain {H : Type} {enc : TypeId × Value → H} {P : Program} {W : World} {r : Reach} {base : Nat} {n : Nat} {t : TypeId} {v : Value} {d : DataW H} {ps : List MemPlace} (hp : plainB P n t = true) (hv : Value.okWide P W r base t v)
    (h : DataW.Trod enc P W 0 (fun _ => true) true t v d ps) : ∃ a, VRel (Rl.old W) W v a ∧ RdD P t d a := by
  obtain ⟨fuel, hf⟩ := h
  obtain ⟨a, h1, _, _, h2⟩ := read_cells fuel n t _ d ps hf hp
  refine ⟨a, h2 v ?_, h1⟩
  cases n with
  | zero => simp [plainB] at hp
  | succ n =>
    rw [plainB] at hp
    split at hp
    · rename_i ht
      obtain ⟨b, rfl⟩ := okWide_bool ht hv
      exact .inr ⟨rfl, by simp [aggT, ht]⟩
    · rename_i k ht
      obtain ⟨b, rfl⟩ := okWide_int ht hv
      exact .inr ⟨rfl, by simp [aggT, ht]⟩
    · rename_i ht
      obtain ⟨b, rfl⟩ := okWide_string ht hv
      exact .inr ⟨rfl, by simp [aggT, ht]⟩
    · rename_i e ht
      obtain ⟨a, len, cap, rfl⟩ := okWide_slice ht hv
      exact .inr ⟨rfl, by simp [aggT, ht]⟩
    · rename_i fs ht
      obtain ⟨cs, rfl, _⟩ := okWide_struct ht hv
      exact .inl ⟨cs, rfl, rfl, by simp [aggT, ht]⟩
    · cases hp
def RdDAll (P : Program) {H : Type} : List Field → List (DataW H) → List AV → Prop
  | [], [], [] => True
  | f :: fs, d :: ds, x :: xs => RdD P f.type d x ∧ RdDAll P fs ds xs
  | _, _, _ => False
theorem RdDAll.of {P : Program} {H : Type} : ∀ {fs : List Field} {ds : List (DataW H)} {xs : List AV}, ds.length = fs.length → xs.length = fs.length → (∀ i (h1 : i < ds.length) (h2 : i < xs.length) (h3 : i < fs.length), RdD P fs[i].type ds[i] xs[i]) → RdDAll P fs ds xs
  | [], ds, xs, h1, h2, _ => by
    obtain rfl : ds = [] := List.eq_nil_of_length_eq_zero h1
    obtain rfl : xs = [] := List.eq_nil_of_length_eq_zero h2
    trivial
  | f :: fs, ds, xs, h1, h2, h => by
    cases ds with
    | nil => simp at h1
    | cons d ds =>
      cases xs with
      | nil => simp at h2
      | cons x xs =>
        exact ⟨h 0 (by simp) (by simp) (by simp), RdDAll.of (by simpa using h1) (by simpa using h2) (fun i k1 k2 k3 => h (i + 1) (Nat.succ_lt_succ k1) (Nat.succ_lt_succ k2) (Nat.succ_lt_succ k3))⟩
theorem RdDAll.cons {P : Program} {H : Type} {f : Field} {fs : List Field} {ds : List (DataW H)} {xs : List AV} (h : RdDAll P (f :: fs) ds xs) : ∃ d ds' x xs', ds = d :: ds' ∧ xs = x :: xs' ∧ RdD P f.type d x ∧ RdDAll P fs ds' xs' := by
  match ds, xs, h with
  | d :: ds', x :: xs', ⟨h1, h2⟩ => exact ⟨d, ds', x, xs', rfl, rfl, h1, h2⟩
theorem RdDAll.nil {P : Program} {H : Type} {ds : List (DataW H)} {xs : List AV} (h : RdDAll P [] ds xs) : ds = [] ∧ xs = [] := by
  match ds, xs, h with
  | [], [], _ => exact ⟨rfl, rfl⟩
section
variable {P : Program} {H : Type} {t : TypeId} {d : DataW H} {a : AV}
theorem RdD.inv_st {fs : Array Field} (h : RdD P t d a) (ht : P.underlying t = some (.struct fs)) : ∃ ds xs, d = .agg ds ∧ a = .agg (xs.flatMap AV.cells) ∧ RdDAll P fs.toList ds xs := by
  cases h with
  | st ht' hd hx h =>
    rw [ht] at ht'
    cases ht'
    exact ⟨_, _, rfl, rfl, .of (by simpa using hd) (by simpa using hx) (fun i h1 h2 h3 => by simpa using h i h1 h2 (by simpa using h3))⟩
  | bool ht' => rw [ht] at ht'; cases ht'
  | str ht' => rw [ht] at ht'; cases ht'
  | int ht' => rw [ht] at ht'; cases ht'
  | nils ht' => rw [ht] at ht'; cases ht'
  | sl ht' => rw [ht] at ht'; cases ht'
theorem RdD.inv_str (h : RdD P t d a) (ht : P.underlying t = some .string) : ∃ s, d = .lit (.string s) ∧ a = .str s ∧ s.length ≤ maxLen := by
  cases h with
  | str ht' hs => exact ⟨_, rfl, rfl, hs⟩
  | bool ht' => rw [ht] at ht'; cases ht'
  | int ht' => rw [ht] at ht'; cases ht'
  | nils ht' => rw [ht] at ht'; cases ht'
  | sl ht' => rw [ht] at ht'; cases ht'
  | st ht' => rw [ht] at ht'; cases ht'
theorem RdD.inv_bool (h : RdD P t d a) (ht : P.underlying t = some .bool) : ∃ b, d = .lit (.bool b) ∧ a = .bool b := by
  cases h with
  | bool ht' => exact ⟨_, rfl, rfl⟩
  | int ht' => rw [ht] at ht'; cases ht'
  | str ht' => rw [ht] at ht'; cases ht'
  | nils ht' => rw [ht] at ht'; cases ht'
  | sl ht' => rw [ht] at ht'; cases ht'
  | st ht' => rw [ht] at ht'; cases ht'
theorem RdD.inv_sl {e : TypeId} (h : RdD P t d a) (ht : P.underlying t = some (.slice e)) :
    ∃ (ds : List (DataW H)) (xs : List AV), a = .sl true false (P.cellsOf e) xs ∧ xs.length = ds.length ∧ xs.length ≤ maxLen ∧ (∀ i (h1 : i < ds.length) (h2 : i < xs.length), RdD P e ds[i] xs[i]) ∧ ((d = .nil ∧ ds = []) ∨ ∃ rest, d = .slice ds rest) := by
  cases h with
  | nils ht' => rw [ht] at ht'; cases ht'; exact ⟨[], [], rfl, rfl, Nat.zero_le _, fun i h => absurd h (by simp), .inl ⟨rfl, rfl⟩⟩
  | sl ht' hl hm h => rw [ht] at ht'; cases ht'; exact ⟨_, _, rfl, hl, hm, h, .inr ⟨_, rfl⟩⟩
  | bool ht' => rw [ht] at ht'; cases ht'
  | int ht' => rw [ht] at ht'; cases ht'
  | str ht' => rw [ht] at ht'; cases ht'
  | st ht' => rw [ht] at ht'; cases ht'
theorem RdD.each {α : Type} {e : TypeId} (f : α → AV) (g : α → DataW H → Prop) {ds : List (DataW H)} {xs : List AV} (hl : xs.length = ds.length) (h : ∀ i (h1 : i < ds.length) (h2 : i < xs.length), RdD P e ds[i] xs[i])
    (hf : ∀ d x, RdD P e d x → ∃ y, x = f y ∧ g y d) : ∃ ys : List α, xs = ys.map f ∧ ys.length = ds.length ∧ ∀ i (h1 : i < ds.length) (h2 : i < ys.length), g ys[i] ds[i] := by
  induction xs generalizing ds with
  | nil =>
    obtain rfl : ds = [] := List.eq_nil_of_length_eq_zero (by simpa using hl.symm)
    exact ⟨[], rfl, rfl, fun i h => absurd h (by simp)⟩
  | cons x xs ih =>
    cases ds with
    | nil => simp at hl
    | cons d ds =>
      obtain ⟨y, hy, hg⟩ := hf d x (h 0 (by simp) (by simp))
      obtain ⟨ys, h1, h2, h3⟩ := ih (ds := ds) (by simpa using hl) (fun i k1 k2 => h (i + 1) (Nat.succ_lt_succ k1) (Nat.succ_lt_succ k2))
      refine ⟨y :: ys, by rw [hy, h1]; rfl, by simp [h2], fun i k1 k2 => ?_⟩
      cases i with
      | zero => exact hg
      | succ i => exact h3 i (Nat.lt_of_succ_lt_succ k1) (Nat.lt_of_succ_lt_succ k2)
end
end Go.Ab
end
section
set_option linter.unusedVariables false
set_option linter.unusedSimpArgs false
namespace Go.Ab
open Go Go.WideShapes
mutual
def avB : AV → Nat
  | .str s => s.length
  | .sl _ _ _ xs => avS xs
  | .agg cs => avC cs
  | _ => 0
def avS : List AV → Nat
  | [] => 0
  | x :: r => avB x + 1 + avS r
def avC : List AV → Nat
  | [] => 0
  | x :: r => avB x + avC r
end
theorem avC_append (a b : List AV) : avC (a ++ b) = avC a + avC b := by
  induction a with
  | nil => simp [avC]
  | cons x a ih => simp only [List.cons_append, avC, ih]; omega
theorem avC_cells (x : AV) : avC x.cells ≤ avB x := by
  cases x <;> simp [AV.cells, avC, avB]
theorem avC_flat (xs : List AV) : avC (xs.flatMap AV.cells) ≤ avC xs := by
  induction xs with
  | nil => simp
  | cons x xs ih =>
    have := avC_cells x
    simp only [List.flatMap_cons, avC_append, avC]; omega
theorem avC_le_avS (xs : List AV) : avC xs ≤ avS xs := by
  induction xs with
  | nil => simp [avC, avS]
  | cons x xs ih => simp only [avC, avS]; omega
theorem bulk_all {P : Program} {H : Type} {B : DataW H → Nat} {BA : List (DataW H) → Nat} (hn : BA [] = 0) (hc : ∀ d r, BA (d :: r) = B d + BA r) : ∀ {ds : List (DataW H)} {xs : List AV}, xs.length = ds.length →
    (∀ i (h1 : i < ds.length) (h2 : i < xs.length), avB xs[i] + 1 ≤ B ds[i]) → avS xs ≤ BA ds
  | [], xs, hl, h => by
    obtain rfl : xs = [] := List.eq_nil_of_length_eq_zero (by simpa using hl)
    simp [avS]
  | d :: ds, xs, hl, h => by
    cases xs with
    | nil => simp at hl
    | cons x xs =>
      have h0 := h 0 (by simp) (by simp)
      have := bulk_all (P := P) (B := B) hn hc (ds := ds) (xs := xs) (by simpa using hl) (fun i h1 h2 => h (i + 1) (Nat.succ_lt_succ h1) (Nat.succ_lt_succ h2))
      simp only [avS, hc]
      simp only [List.getElem_cons_zero] at h0
      omega
theorem RdD.bulk {P : Program} {H : Type} {B : DataW H → Nat} {BA : List (DataW H) → Nat} (hn : BA [] = 0) (hc : ∀ d r, BA (d :: r) = B d + BA r) (h1 : ∀ d, 1 ≤ B d) (hs : ∀ s, B (.lit (.string s)) = s.length + 1)
    (hsl : ∀ a b, B (.slice a b) = BA a + BA b + 1) (hag : ∀ a, B (.agg a) = BA a + 1) {t : TypeId} {d : DataW H} {a : AV} (h : RdD P t d a) : avB a + 1 ≤ B d := by
  induction h with
  | bool => simpa [avB] using h1 _
  | int => simpa [avB] using h1 _
  | str => simp [avB, hs]
  | nils => simpa [avB, avS] using h1 _
  | sl ht hl hm h ih =>
    have := bulk_all (P := P) (B := B) hn hc hl ih
    rw [hsl]; simp only [avB]; omega
  | st ht hd hx h ih =>
    have := bulk_all (P := P) (B := B) hn hc (by omega) (fun i a b => ih i a b (by omega))
    rw [hag]; simp only [avB]
    rename_i t fs ds xs
    have k1 := avC_flat xs
    have k2 := avC_le_avS xs
    omega
end Go.Ab
end
section
set_option linter.unusedVariables false
set_option linter.unusedSimpArgs false
set_option maxRecDepth 20000
set_option maxHeartbeats 4000000
namespace Go.Proofs.YtjkeekbfgnmngaaGreatDoor
open Go Go.Ab
theorem avS_fils (l : List Fil) : l.length ≤ avS (fils l) ∧ ∀ f ∈ l, f.path.length + f.text.length ≤ avS (fils l) := by
  induction l with
  | nil => exact ⟨Nat.zero_le _, fun f hf => by cases hf⟩
  | cons g r ih =>
    have e : avS (fils (g :: r)) = (g.path.length + (g.text.length + (0 + 0))) + 1 + avS (fils r) := by
      show avS (filA g :: fils r) = _
      simp only [avS, filA, avB, avC]
    rw [e]
    refine ⟨by rw [List.length_cons]; omega, fun f hf => ?_⟩
    rcases List.mem_cons.1 hf with rfl | hf
    · omega
    · have := ih.2 f hf; omega
theorem fils_of {l : List Fil} (hk : avB (.sl true false 3 (fils l)) ≤ 1048576) : FilsOk l := by
  have h : avS (fils l) ≤ 1048576 := by simpa only [avB] using hk
  have := avS_fils l
  exact ⟨by omega, fun f hf => by have := this.2 f hf; omega, fun f hf => by have := this.2 f hf; omega⟩
end Go.Proofs.YtjkeekbfgnmngaaGreatDoor
end
section
set_option linter.unusedVariables false
set_option linter.unusedSimpArgs false
set_option maxRecDepth 20000
set_option maxHeartbeats 4000000
namespace Go.Proofs.YtjkeekbfgnmngaaGreatDoor
open Go Go.Ab
def cutF (dir : List UInt8) (f : Fil) : Fil := ⟨f.path.drop (dir.length + 1), f.text, f.run⟩
def undT (l : List Fil) (dir : List UInt8) : List Fil := (l.filter (fun f => insT dir f.path)).map (cutF dir)
def undE (l : List Fil) (dir : List UInt8) : Nat := if chkT l = 0 then (if isPathB dir = true then (if undT l dir = [] then 5 else 0) else 1) else chkT l
theorem und_step {l : List Fil} {i : Nat} (h : i < l.length) (dir : List UInt8) : undT (l.take (i + 1)) dir = undT (l.take i) dir ++ (if insT dir l[i].path = true then [cutF dir l[i]] else []) := by
  unfold undT
  rw [List.take_succ_eq_append_getElem h, List.filter_append, List.map_append]
  congr 1
  cases hi : insT dir l[i].path with
  | true => rw [List.filter_cons_of_pos (by simpa using hi)]; rfl
  | false => rw [List.filter_cons_of_neg (by simpa using hi)]; rfl
theorem und_len (l : List Fil) (dir : List UInt8) : (undT l dir).length ≤ l.length := by
  unfold undT; rw [List.length_map]; exact List.length_filter_le _ _
def outV (k : Nat) (out : List Fil) : AV := match out with | [] => .nils | _ :: _ => .ms k out.length 0 out.length 3 false
def outB (out : List Fil) : Option Box := match out with | [] => none | _ :: _ => some (.cells (celsF out) ⟨false, none⟩)
theorem Under_raw {st fl : Bool} (l : List Fil) (dir : List UInt8) (hl : FilsOk l) (hd : dir.length ≤ 1000000000) : CallOk cx 7 [.sl st fl 3 (fils l), .str dir] [] (RawF (undT l dir) (undE l dir)) :=
  callOk_intro (fun a w => Tryz.call7 a w) Tryz.func7 rfl Tryz.ntmps7 rfl fun B => by
    have hll := fils_len l
    have hlen := hl.len
    have hC := Check_ok (st := st) (fl := fl) l hl
    have hP := isPath_ok dir (by omega)
    have rt : ∀ (x : List Fil) (e : Nat), e ≠ 0 → flatAV (x, e) = .tup [.nils, .int .i64 (e : Nat)] := fun x e he => by unfold flatAV; rw [if_neg he]
    have rf : ∀ e : Int, Free true (.tup [.nils, .int .i64 e]) := fun e => .tup (by intro x hx; simp at hx; rcases hx with rfl | rfl; exact .nils; exact .int)
    unfold undE
    by_cases hc : chkT l = 0
    case neg =>
      rw [if_neg hc]
      refine pa [.v (.int .i64 (chkT l : Nat)), .b true] rfl ?_ ?_
      · (repeat' with_reducible apply AllP_cons) <;> try exact aC
        · exact ⟨_, hC, .cons (.refl (.sl (fun h => by cases h) (fils_free l))) (.nil _)⟩
        · show ((((chkT l : Nat) : Int)) != 0) = true
          rw [chk_bne]; simpa using hc
      exact S_ret ⟨_, _, rfl, trivial, .inl ⟨by first | assumption | decide, rfl⟩⟩
    rw [hc] at hC
    rw [if_pos hc]
    cases hp : isPathB dir with
    | false =>
      rw [hp] at hP
      rw [if_neg (by simp)]
      refine pa [.v (.int .i64 ((0 : Nat) : Int)), .b false, .v (.bool false), .b true] rfl ?_ ?_
      · (repeat' with_reducible apply AllP_cons) <;> try exact aC
        · exact ⟨_, hC, .cons (.refl (.sl (fun h => by cases h) (fils_free l))) (.nil _)⟩
        · exact ⟨_, hP, .cons (.refl .str) (.nil _)⟩
      exact S_ret ⟨_, _, rfl, trivial, .inl ⟨by first | assumption | decide, rfl⟩⟩
    | true =>
      rw [hp] at hP
      rw [if_pos rfl]
      refine pa [.v (.int .i64 ((0 : Nat) : Int)), .b false, .v (.bool true), .b false] rfl ?_ ?_
      · (repeat' with_reducible apply AllP_cons) <;> try exact aC
        · exact ⟨_, hC, .cons (.refl (.sl (fun h => by cases h) (fils_free l))) (.nil _)⟩
        · exact ⟨_, hP, .cons (.refl .str) (.nil _)⟩
      refine S_dead ?_ ⟨_, _, .inl rfl⟩
      refine S_dead ?_ ⟨_, _, .inl rfl⟩
      refine S_while (α := Nat) (fun i => [(1, .str dir), (7, outV 1 (undT (l.take i) dir)), (18, .sl st fl 3 (fils l)), (19, .int .i64 (((fils l).length : Nat) : Int)), (20, .int .i64 (i : Nat))]) (fun i => [(i, none), ((undT (l.take i) dir).length, outB (undT (l.take i) dir))]) (fun i => i ≤ l.length) (fun i => l.length - i) 0
        (Nat.zero_le _) (.cons rfl (.cons rfl (.cons rfl (.cons rfl (.cons rfl (.nil _)))))) rfl ?_
      intro i hi
      have hi : i ≤ l.length := hi
      by_cases hlt : i < l.length
      · have e1 : decide ((i : Int) < (((fils l).length : Nat) : Int)) = true := decide_eq_true (by omega)
        have g1 : (fils l)[(i : Int).toNat]? = some (filA l[i]) := fils_get hlt
        have hm := List.getElem_mem hlt
        have hN := inside_ok dir l[i].path (by omega)
        have hU := und_step hlt dir
        have hul := und_len (l.take i) dir
        rw [List.length_take] at hul
        generalize undT (l.take i) dir = o at hU hul
        cases hin : insT dir l[i].path with
        | false =>
          rw [hin] at hN hU
          rw [if_neg (by simp), List.append_nil] at hU
          cases o with
          | nil =>
            refine pa [.b true, .v (filA l[i]), .v (.bool false), .b false, .s] rfl ?_ ?_
            · (repeat' with_reducible apply AllP_cons) <;> try exact aC
              · exact ⟨_, hN, .cons (.refl .str) (.cons (.refl .str) (.nil _))⟩
            refine S_drop (id := 0) rfl ?_ ⟨.skip, _, .inr ⟨_, _, _, rfl⟩⟩
            refine pB [] rfl ?_
            exact S_round (i + 1) (by show l.length - (i + 1) < l.length - i; omega) hlt (.cons rfl (.cons (by rw [hU]; rfl) (.cons rfl (.cons rfl (.cons (nX (by omega)) (.nil _)))))) (by rw [hU]; rfl)
          | cons f r =>
            refine pa [.b true, .v (filA l[i]), .v (.bool false), .b false, .s] rfl ?_ ?_
            · (repeat' with_reducible apply AllP_cons) <;> try exact aC
              · exact ⟨_, hN, .cons (.refl .str) (.cons (.refl .str) (.nil _))⟩
            refine S_drop (id := 0) rfl ?_ ⟨.skip, _, .inr ⟨_, _, _, rfl⟩⟩
            refine pB [] rfl ?_
            exact S_round (i + 1) (by show l.length - (i + 1) < l.length - i; omega) hlt (.cons rfl (.cons (by rw [hU]; rfl) (.cons rfl (.cons rfl (.cons (nX (by omega)) (.nil _)))))) (by rw [hU]; rfl)
        | true =>
          rw [hin] at hN hU
          rw [if_pos rfl] at hU
          have hpl : dir.length + 1 ≤ l[i].path.length := ((ins_iff dir l[i].path).1 hin).1
          have hpm := hl.path _ hm
          have hw : IntKind.i64.wrap ((dir.length : Int) + 1) = ((dir.length + 1 : Nat) : Int) := w64 (by omega) (by omega)
          have hcut : cutL (some (IntKind.i64.wrap ((dir.length : Int) + 1))) none l[i].path = l[i].path.drop (dir.length + 1) := by
            rw [hw]; simp [cutL]
          cases o with
          | nil =>
            refine pan 44 [.b true, .v (filA l[i]), .v (.bool true), .b true] rfl ?_ ?_
            · (repeat' with_reducible apply AllP_cons) <;> try exact aC
              · exact ⟨_, hN, .cons (.refl .str) (.cons (.refl .str) (.nil _))⟩
            refine S_drop (id := 0) rfl ?_ ⟨.skip, _, .inr ⟨_, _, _, rfl⟩⟩
            refine S_heap [(i + 1, none), (1, some (.cells (celsF [cutF dir l[i]]) ⟨false, none⟩))] ?_ ?_
            · show ([(i + 1, none), (1, some (.cells [.str (cutL (some (IntKind.i64.wrap ((dir.length : Int) + 1))) none l[i].path), .str l[i].text, .bool l[i].run] ⟨false, none⟩))] : Heap) = _
              rw [hcut]; rfl
            refine pB [] rfl ?_
            exact S_round (i + 1) (by show l.length - (i + 1) < l.length - i; omega) hlt (.cons rfl (.cons (by rw [hU]; rfl) (.cons rfl (.cons rfl (.cons (nX (by omega)) (.nil _)))))) (by rw [hU]; rfl)
          | cons f r =>
            refine pan 44 [.b true, .v (filA l[i]), .v (.bool true), .b true] rfl ?_ ?_
            · (repeat' with_reducible apply AllP_cons) <;> try exact aC
              · exact ⟨_, hN, .cons (.refl .str) (.cons (.refl .str) (.nil _))⟩
              · show 0 + (f :: r).length * 3 = _
                rw [cels_len]; omega
              · show ((f :: r).length + 1) * 40 ≤ 140737488355328
                omega
              · show (f :: r).length + 1 ≤ 9223372036854775807
                omega
            refine S_drop (id := 0) rfl ?_ ⟨.skip, _, .inr ⟨_, _, _, rfl⟩⟩
            refine S_heap [(i + 1, none), ((f :: r).length + 1, some (.cells (celsF ((f :: r) ++ [cutF dir l[i]])) ⟨false, none⟩))] ?_ ?_
            · show ([(i + 1, none), ((f :: r).length + 1, some (.cells (dropA 0 (celsF (f :: r)) ++ [.str (cutL (some (IntKind.i64.wrap ((dir.length : Int) + 1))) none l[i].path), .str l[i].text, .bool l[i].run]) ⟨false, none⟩))] : Heap) = _
              rw [hcut, celsF_add]; rfl
            refine pB [] rfl ?_
            exact S_round (i + 1) (by show l.length - (i + 1) < l.length - i; omega) hlt (.cons rfl (.cons (by rw [hU]; show AV.ms 1 ((f :: r).length + 1) 0 ((f :: r).length + 1) 3 false = outV 1 ((f :: r) ++ [cutF dir l[i]]); simp [outV]) (.cons rfl (.cons rfl (.cons (nX (by omega)) (.nil _)))))) (by rw [hU]; show _ = [(i + 1, none), (((f :: r) ++ [cutF dir l[i]]).length, outB ((f :: r) ++ [cutF dir l[i]]))]; rw [List.length_append]; rfl)
      · have hil : i = l.length := by omega
        subst hil
        have e1 : decide ((l.length : Int) < (((fils l).length : Nat) : Int)) = false := decide_eq_false (by omega)
        rw [List.take_length]
        have hcl := cels_len (undT l dir)
        have hul := und_len l dir
        cases ho : undT l dir with
        | nil =>
          rw [if_pos rfl]
          refine pa [.b false, .v (.bool true), .b true] rfl ?_ ?_
          · (repeat' with_reducible apply AllP_cons) <;> try exact aC
            · exact OpSpec.nilEq rfl Tryz.underlying22 rfl rfl (.inl ⟨rfl, rfl⟩)
          exact S_ret ⟨_, _, rfl, trivial, .inl ⟨by first | assumption | decide, rfl⟩⟩
        | cons f r =>
          rw [if_neg (by simp)]
          rw [ho] at hcl hul
          refine pa [.b false, .v (.bool false), .b false] rfl ?_ ?_
          · (repeat' with_reducible apply AllP_cons) <;> try exact aC
            · exact OpSpec.nilEq rfl Tryz.underlying22 rfl rfl (.inr ⟨_, _, _, _, _, _, rfl, by simp, rfl⟩)
          exact S_ret ⟨_, _, rfl, trivial, .inr ⟨rfl, _, _, rfl, rfl⟩⟩
end Go.Proofs.YtjkeekbfgnmngaaGreatDoor
end
section
set_option linter.unusedVariables false
set_option linter.unusedSimpArgs false
set_option maxRecDepth 20000
set_option maxHeartbeats 4000000
namespace Go.Proofs.YtjkeekbfgnmngaaGreatDoor
open Go Go.Ab
def flatSV (y : List Fil × Nat) : AV := .tup [.sl true false 3 (fils (if y.2 = 0 then y.1 else [])), .int .i64 (y.2 : Nat)]
theorem flatS {f : FuncId} {args : List AV} {y : List Fil × Nat} (h : Calc cx f args (flatAV y)) : Calc cx f args (flatSV y) :=
  h.weak (.tup (by intro x hx; simp at hx; rcases hx with rfl | rfl; exact .sl (fun _ => rfl) (fils_free _); exact .int)) fun r w v hv => by
    unfold flatAV at hv
    unfold flatSV
    by_cases he : y.2 = 0
    · rw [if_pos he] at hv ⊢; exact hv
    · rw [if_neg he] at hv ⊢
      cases hv with
      | tup hn hall =>
        refine .tup hn fun i hi => ?_
        match i, hi with
        | 0, hi =>
          have h0 := hall 0 (by simp)
          have h0 : VRel r w _ .nils := h0
          show VRel r w _ (.sl true false 3 [])
          generalize Array.getD _ 0 undef = z at h0 ⊢
          cases h0
          exact .sl0 (fun h => by cases h)
        | 1, hi => exact hall 1 (by simp)
        | k + 2, hi => exact absurd hi (by simp)
end Go.Proofs.YtjkeekbfgnmngaaGreatDoor
end
section
set_option linter.unusedVariables false
set_option linter.unusedSimpArgs false
set_option maxRecDepth 20000
namespace Go.Proofs.YtjkeekbfgnmngaaGreatDoor
open Go Go.Ab Go.Shelf Go.RowKit Go.Lib Go.Sort
def lay_grow_ren : Go.Shelf.Ren := ⟨fun | 4 => 67 | n => n, fun | 22 => 22 | 25 => 25 | 3 => 3 | 4 => 4 | 9 => 9 | 20 => 20 | 0 => 0 | n => n, fun | n => n⟩
theorem lay_grow : Go.Proofs.Lays8.n4 Tryz.prog lay_grow_ren := {
  mixed := by kernel_rfl
  f4 := ⟨Tryz.f67.name, by decide, Tryz.func67.trans (congrArg some (by kernel_rfl))⟩
  t0 := Tryz.underlying0
  a0 := Tryz.isAgg0
  z0 := Tryz.sizeOf0
  v0 := Tryz.zeroValue0
  t3 := Tryz.underlying3
  a3 := Tryz.isAgg3
  z3 := Tryz.sizeOf3
  v3 := Tryz.zeroValue3
  t4 := Tryz.underlying4
  a4 := Tryz.isAgg4
  z4 := Tryz.sizeOf4
  v4 := Tryz.zeroValue4
  t9 := Tryz.underlying9
  a9 := Tryz.isAgg9
  z9 := Tryz.sizeOf9
  v9 := Tryz.zeroValue9
  t20 := Tryz.underlying20
  a20 := Tryz.isAgg20
  z20 := Tryz.sizeOf20
  v20 := Tryz.zeroValue20
  t22 := Tryz.underlying22
  a22 := Tryz.isAgg22
  z22 := Tryz.sizeOf22
  v22 := Tryz.zeroValue22 }
end Go.Proofs.YtjkeekbfgnmngaaGreatDoor
end
section
set_option linter.unusedVariables false
set_option linter.unusedSimpArgs false
namespace Go.Ab
open Go Go.Shelf Go.RowKit Go.Lib
theorem Grow_gen {cx : Cx} {ρ : Ren} (L : Go.Proofs.Lays8.n4 cx.P ρ) (he : Enters cx.P (ρ.f 4)) {i0 : TypeInfo} {z : Value} (hi0 : cx.P.info? (ρ.t 25) = some i0) (hz0 : i0.zero = some z) (hs0 : 0 < i0.size) (hzs : z.cells.size = i0.size)
    {σ σ' : Heap} {id ver n : Nat} (ha : allocH σ (.cells [] ⟨false, none⟩) = (id, ver, σ')) (hb : n * i0.bytes ≤ 140737488355328) (h63 : n ≤ 4611686018427387904) :
    CallOk cx (ρ.f 4) [.nils, .int .i64 (n : Nat)] σ (fun e s => e = .ret (.ms id ver 0 0 i0.size false) ∧ s = σ') := by
  refine ⟨he, fun r w vs hi hv => ?_⟩
  obtain ⟨hs, hv⟩ := hv
  have g0 := hv 0 (by simp)
  have g1 := hv 1 (by simp)
  have hvs : vs = #[vs.getD 0 undef, vs.getD 1 undef] := by
    have hs : vs.size = 2 := hs
    refine Array.ext (by simp [hs]) fun j h1 h2 => ?_
    match j, h1 with
    | 0, h1 => simp [Array.getD, h1]
    | 1, h1 => simp [Array.getD, h1]
    | j + 2, h1 => omega
  rw [hvs]
  generalize vs.getD 0 undef = a at g0
  generalize vs.getD 1 undef = b at g1
  have g0 : VRel r w a .nils := g0
  have g1 : VRel r w b (.int .i64 (n : Nat)) := g1
  cases g0
  cases g1
  by_cases hn : n = 0
  · subst hn
    refine (Go.Proofs.Any8.slices_Grow_room L none 0 0 0 w (Nat.le_refl _) (by decide) (by decide) (Nat.le_refl _)).mono ?_
    rintro e w' ⟨rfl, rfl⟩
    obtain ⟨ha1, ha2, ha3⟩ := allocH_spec ha
    obtain ⟨q1, q2⟩ := hi.ghost ha1 ha2 ha3
    exact ⟨_, _, r, ⟨rfl, rfl⟩, .ms0, q1, q2⟩
  · refine (Go.Proofs.Any8.slices_Grow_grow L i0 z hi0 hz0 hs0 none 0 0 n [] w (Nat.le_refl _) (by omega) (by simpa using hb) (by omega) (by simp) (fun _ => rfl) (fun a h => by cases h)).mono ?_
    rintro e w' ⟨rfl, rfl⟩
    obtain ⟨hi1, hx1⟩ := hi.heap_eq (w' := w.drew) rfl rfl rfl rfl
    obtain ⟨r', k1, k2, k3, k4, k5⟩ := hi1.newCells (c := (([] : List Value).toArray ++ Builtin.zeroCells z.cells (0 + n - 0) ++ Builtin.zeroCells z.cells (grownCap w (0 + n) 0 (ρ.t 25) - (0 + n)))) (t := ρ.t 25) ha (fun j hj => absurd hj (by simp)) (fun x hx => by cases hx) (fun T h => by cases h)
    have hG := grownCap_ge w (0 + n) 0 (ρ.t 25)
    refine ⟨_, _, r', ⟨rfl, rfl⟩, ?_, k1, hx1.trans k2⟩
    refine VRel.ms (o := 0) (off := 0) k3 ⟨_, _, _, heap_alloc_self w.drew _, ?_⟩ (Nat.zero_le _) (fun h => by cases h)
    generalize grownCap w (0 + n) 0 (ρ.t 25) = G at hG
    have hsz : ∀ k, (Builtin.zeroCells z.cells k).size = k * i0.size := fun k => by rw [size_zeroCells, hzs]
    show 0 + 0 + G * i0.size ≤ (([] : List Value).toArray ++ Builtin.zeroCells z.cells (0 + n - 0) ++ Builtin.zeroCells z.cells (G - (0 + n))).size
    rw [Array.size_append, Array.size_append, hsz, hsz]
    have : G * i0.size = (0 + n - 0) * i0.size + (G - (0 + n)) * i0.size := by
      rw [← Nat.add_mul]; congr 1; omega
    simp only [List.size_toArray, List.length_nil]
    omega
end Go.Ab
end
section
set_option linter.unusedVariables false
set_option linter.unusedSimpArgs false
set_option maxRecDepth 20000
set_option maxHeartbeats 4000000
namespace Go.Proofs.YtjkeekbfgnmngaaGreatDoor
open Go Go.Ab
theorem GrowF_ok {σ σ' : Heap} {id ver n : Nat} (ha : allocH σ (.cells [] ⟨false, none⟩) = (id, ver, σ')) (hn : n ≤ 1000000000000) :
    CallOk cx 67 [.nils, .int .i64 (n : Nat)] σ (fun e s => e = .ret (.ms id ver 0 0 3 false) ∧ s = σ') :=
  Grow_gen (cx := cx) (i0 := (Tryz.prog.types[25]'(by decide +kernel))) (z := .agg #[.string .empty, .string .empty, .bool false]) lay_grow (fun a w => Tryz.call67 a w) (by kernel_rfl) (by kernel_rfl) (by decide +kernel) (by kernel_rfl) ha (by
    have : (Tryz.prog.types[25]'(by decide +kernel)).bytes = 40 := by kernel_rfl
    rw [this]; omega) (by omega)
def szC (a b : List Fil) : Nat → Nat
  | 0 => 0
  | 1 => a.length
  | _ => a.length + b.length
def ccC (a b : List Fil) : Nat → List Fil
  | 0 => []
  | 1 => a
  | _ => a ++ b
theorem celsF_app (a b : List Fil) : celsF (a ++ b) = celsF a ++ celsF b := by
  unfold celsF fils; rw [List.map_append, List.flatMap_append]
theorem Concat_ok {st fl st' fl' : Bool} (a b : List Fil) (ha : a.length ≤ 1000000000) (hb : b.length ≤ 1000000000) :
    Calc cx 27 [.sl true true 1 [.sl st fl 3 (fils a), .sl st' fl' 3 (fils b)]] (.sl true false 3 (fils (a ++ b))) :=
  pure_intro (fun a w => Tryz.call27 a w) Tryz.func27 rfl Tryz.ntmps27 rfl (.sl (fun _ => rfl) (fils_free _)) fun B => by
    have hla := fils_len a
    have hlb := fils_len b
    refine pB [] rfl ?_
    refine S_while (α := Nat) (fun i => [(0, .sl true true 1 [.sl st fl 3 (fils a), .sl st' fl' 3 (fils b)]), (3, .int .i64 (szC a b i : Nat)), (9, .sl true true 1 [.sl st fl 3 (fils a), .sl st' fl' 3 (fils b)]), (10, .int .i64 2), (11, .int .i64 (i : Nat))]) (fun _ => []) (fun i => i ≤ 2) (fun i => 2 - i) 0
      (Nat.zero_le _) (.cons rfl (.cons rfl (.cons rfl (.cons rfl (.cons rfl (.nil _)))))) rfl ?_
    intro i hi
    have hi : i ≤ 2 := hi
    have hw0 : IntKind.i64.wrap (((0 : Nat) : Int) + (((fils a).length : Nat) : Int)) = (a.length : Int) := w64 (by omega) (by omega)
    have hw1 : IntKind.i64.wrap ((a.length : Int) + (((fils b).length : Nat) : Int)) = ((a.length + b.length : Nat) : Int) := w64 (by omega) (by omega)
    match i, hi with
    | 0, _ =>
      refine pa [.b true, .v (.sl st fl 3 (fils a)), .b false] rfl ?_ ?_
      · (repeat' with_reducible apply AllP_cons) <;> try exact aC
        · show decide (IntKind.i64.wrap (((0 : Nat) : Int) + (((fils a).length : Nat) : Int)) < 0) = false
          rw [hw0]; exact decide_eq_false (by omega)
      exact S_round 1 (by decide) (by decide) (.cons rfl (.cons (by show AV.int .i64 (IntKind.i64.wrap (((0 : Nat) : Int) + (((fils a).length : Nat) : Int))) = .int .i64 (a.length : Int); rw [hw0]) (.cons rfl (.cons rfl (.cons rfl (.nil _)))))) rfl
    | 1, _ =>
      refine pa [.b true, .v (.sl st' fl' 3 (fils b)), .b false] rfl ?_ ?_
      · (repeat' with_reducible apply AllP_cons) <;> try exact aC
        · show decide (IntKind.i64.wrap ((a.length : Int) + (((fils b).length : Nat) : Int)) < 0) = false
          rw [hw1]; exact decide_eq_false (by omega)
      exact S_round 2 (by decide) (by decide) (.cons rfl (.cons (by show AV.int .i64 (IntKind.i64.wrap ((a.length : Int) + (((fils b).length : Nat) : Int))) = .int .i64 ((a.length + b.length : Nat) : Int); rw [hw1]) (.cons rfl (.cons rfl (.cons rfl (.nil _)))))) rfl
    | 2, _ =>
      have hG := GrowF_ok (σ := []) (n := a.length + b.length) rfl (by omega)
      refine pB [.b false, .f (.ms 0 0 0 0 3 false) (fun _ => [(0, some (.cells [] ⟨false, none⟩))])] rfl ?_
      refine S_while (α := Nat) (fun i => [(25, .sl true true 1 [.sl st fl 3 (fils a), .sl st' fl' 3 (fils b)]), (26, .int .i64 2), (27, .int .i64 (i : Nat)), (6, .ms 0 i 0 (ccC a b i).length 3 false)]) (fun i => [(i, some (.cells (celsF (ccC a b i)) ⟨false, none⟩))]) (fun i => i ≤ 2) (fun i => 2 - i) 0
        (Nat.zero_le _) (.cons rfl (.cons rfl (.cons rfl (.cons rfl (.nil _))))) rfl ?_
      intro i hi
      have hi : i ≤ 2 := hi
      have hca := cels_len a
      match i, hi with
      | 0, _ =>
        refine pa [.b true, .v (.sl st fl 3 (fils a))] rfl ?_ ?_
        · (repeat' with_reducible apply AllP_cons) <;> try exact aC
          · exact cels_one a
          · exact cels_one a
          · show (0 + (fils a).length) * 40 ≤ 140737488355328
            omega
          · show 0 + (fils a).length ≤ 9223372036854775807
            omega
        refine S_round 1 (by decide) (by decide) (.cons rfl (.cons rfl (.cons rfl (.cons ?_ (.nil _))))) ?_
        · show AV.ms 0 1 0 (0 + (fils a).length) 3 false = AV.ms 0 1 0 a.length 3 false
          rw [hla, Nat.zero_add]
        · rfl
      | 1, _ =>
        refine pa [.b true, .v (.sl st' fl' 3 (fils b))] rfl ?_ ?_
        · (repeat' with_reducible apply AllP_cons) <;> try exact aC
          · exact cels_one b
          · exact cels_one b
          · show 0 + a.length * 3 = (celsF a).length
            omega
          · show (a.length + (fils b).length) * 40 ≤ 140737488355328
            omega
          · show a.length + (fils b).length ≤ 9223372036854775807
            omega
        refine S_round 2 (by decide) (by decide) (.cons rfl (.cons rfl (.cons rfl (.cons ?_ (.nil _))))) ?_
        · show AV.ms 0 2 0 (a.length + (fils b).length) 3 false = AV.ms 0 2 0 (a ++ b).length 3 false
          rw [hlb, List.length_append]
        · show ([(2, some (.cells (celsF a ++ celsF b) ⟨false, none⟩))] : Heap) = [(2, some (.cells (celsF (a ++ b)) ⟨false, none⟩))]
          rw [celsF_app]
      | 2, _ =>
        have hcl := cels_len (a ++ b)
        refine pB [.b false] rfl ?_
        refine S_ret ⟨_, _, rfl, trivial, _, rfl, ?_⟩
        show Frz true [(2, some (.cells (celsF (a ++ b)) ⟨false, none⟩))] (.ms 0 2 0 (a ++ b).length 3 false) (.sl true false 3 (fils (a ++ b)))
        exact .ms rfl (by omega) (by rw [List.drop_zero]; exact List.take_of_length_le (by omega)) (fil_size _) (fils_len _) (fils_free _)
theorem both_ok {st fl st' fl' : Bool} (a b : List Fil) (ha : FilsOk a) (hb : FilsOk b) : Calc cx 26 [.sl st fl 3 (fils a), .sl st' fl' 3 (fils b)] (.int .i64 ((if chkT a = 0 then chkT b else chkT a : Nat) : Int)) :=
  pure_intro (fun a w => Tryz.call26 a w) Tryz.func26 rfl Tryz.ntmps26 rfl .int fun B => by
    have hA := Check_ok (st := st) (fl := fl) a ha
    have hB := Check_ok (st := st') (fl := fl') b hb
    by_cases hc : chkT a = 0
    · rw [hc] at hA
      rw [if_pos hc]
      refine pa [.v (.int .i64 ((0 : Nat) : Int)), .b false, .v (.int .i64 (chkT b : Nat))] rfl ?_ ?_
      · (repeat' with_reducible apply AllP_cons) <;> try exact aC
        · exact ⟨_, hA, .cons (.refl (.sl (fun h => by cases h) (fils_free a))) (.nil _)⟩
        · exact ⟨_, hB, .cons (.refl (.sl (fun h => by cases h) (fils_free b))) (.nil _)⟩
      exact S_retc .int rfl trivial rfl
    · rw [if_neg hc]
      refine pa [.v (.int .i64 (chkT a : Nat)), .b true] rfl ?_ ?_
      · (repeat' with_reducible apply AllP_cons) <;> try exact aC
        · exact ⟨_, hA, .cons (.refl (.sl (fun h => by cases h) (fils_free a))) (.nil _)⟩
        · show ((((chkT a : Nat) : Int)) != 0) = true
          rw [chk_bne]; simpa using hc
      exact S_retc .int rfl trivial rfl
def fBx (v : Nat) (f : Fil) (w : Nat) (l : List Fil) : Heap := [filBx v f, (w, some (.cells (celsF l) ⟨false, none⟩))]
theorem Over1_ok (v : Nat) (f : Fil) (w : Nat) (l : List Fil) (g : Fil) (hf : f.path.length ≤ 1000000000000) :
    CallOk cx 31 [filA g, .ptr 0 v 0] (fBx v f w l) (fun o s => o = .ret (.bool (insT f.path g.path)) ∧ s = fBx v f w l) :=
  callOk_introT (fun a w => Tryz.call31 a w) Tryz.func31 rfl Tryz.ntmps31 rfl fun B => by
    have hN := inside_ok f.path g.path hf
    refine pa [.v (.bool (insT f.path g.path))] rfl ?_ ?_
    · (repeat' with_reducible apply AllP_cons) <;> try exact aC
      · exact ⟨_, hN, .cons (.refl .str) (.cons (.refl .str) (.nil _))⟩
    refine S_ret ⟨_, _, rfl, trivial, 2, Nat.le_refl _, LowH.of (fun e he x hx => ?_), _, .low .bool, rfl, rfl⟩
    have he : e ∈ [filBx v f, (w, some (.cells (celsF l) ⟨false, none⟩))] := he
    simp only [List.mem_cons, List.not_mem_nil, or_false] at he
    rcases he with rfl | rfl
    · cases hx
      refine .cells fun z hz => ?_
      have hz : z ∈ [AV.str f.path, .str f.text, .bool f.run] := hz
      simp at hz; rcases hz with rfl | rfl | rfl; exact .str; exact .str; exact .bool
    · cases hx
      exact .cells fun z hz => (Low.free (cels_free (st := true) l z hz))
theorem cels_at : ∀ {l : List Fil} {i : Nat} (h : i < l.length), ∃ r, (celsF l).drop (i * 3) = .str l[i].path :: .str l[i].text :: .bool l[i].run :: r
  | f :: l, 0, h => ⟨celsF l, rfl⟩
  | f :: l, i + 1, h => by
    obtain ⟨r, hr⟩ := cels_at (l := l) (i := i) (by simpa using h)
    refine ⟨r, ?_⟩
    have e : celsF (f :: l) = [.str f.path, .str f.text, .bool f.run] ++ celsF l := rfl
    have e2 : (i + 1) * 3 = ([.str f.path, .str f.text, .bool f.run] : List AV).length + i * 3 := by simp; omega
    rw [e, e2, List.drop_append, Nat.add_sub_cancel_left, hr, List.drop_eq_nil_of_le (by omega)]
    rfl
theorem cels_off (i : Nat) : offN 0 (mulN (i : Int).toNat 3) = i * 3 := by
  rw [Int.toNat_natCast, offN_eq, mulN_eq, Nat.zero_add]
theorem IndexFuncF_ok (v : Nat) (f : Fil) (w : Nat) (l : List Fil) (hf : f.path.length ≤ 1000000000000) (hl : l.length ≤ 1000000000) :
    CallOk cx 71 [.ms 1 w 0 l.length 3 false, .func (.func 31) [] [.ptr 0 v 0]] (fBx v f w l) (fun o s => o = .ret (.int .i64 (match l.findIdx? (fun g => insT f.path g.path) with | some i => (i : Int) | none => -1)) ∧ s = fBx v f w l) :=
  callOk_intro (fun a w => Tryz.call71 a w) Tryz.func71 rfl Tryz.ntmps71 rfl fun B => by
    refine pB [] rfl ?_
    refine S_while (α := Nat) (fun i => [(0, .ms 1 w 0 l.length 3 false), (1, .func (.func 31) [] [.ptr 0 v 0]), (7, .int .i64 (l.length : Nat)), (8, .int .i64 (i : Nat))]) (fun _ => fBx v f w l) (fun i => i ≤ l.length ∧ ∀ k (hk : k < l.length), k < i → insT f.path l[k].path = false) (fun i => l.length - i) 0
      ⟨Nat.zero_le _, fun k hk h => absurd h (Nat.not_lt_zero _)⟩ (.cons rfl (.cons rfl (.cons rfl (.cons rfl (.nil _))))) rfl ?_
    rintro i ⟨hi, hN⟩
    have hi : i ≤ l.length := hi
    by_cases hlt : i < l.length
    · have e1 : decide ((i : Int) < (l.length : Int)) = true := decide_eq_true (by omega)
      have hC := Over1_ok v f w l l[i] hf
      cases hin : insT f.path l[i].path with
      | true =>
        rw [hin] at hC
        refine pa [.b true, .v .top, .v (filA l[i]), .k (.bool true), .b true] rfl ?_ ?_
        · (repeat' with_reducible apply AllP_cons) <;> try exact aC
          · show 3 ≤ ((celsF l).drop (offN 0 (mulN (i : Int).toNat 3))).length
            rw [cels_off, List.length_drop, cels_len]; omega
          · show filA l[i] = .agg (List.take 3 ((celsF l).drop (offN 0 (mulN (i : Int).toNat 3))))
            obtain ⟨r, hr⟩ := cels_at hlt
            rw [cels_off, hr]; rfl
        refine S_ret ⟨_, _, rfl, trivial, ?_, rfl⟩
        have : l.findIdx? (fun g => insT f.path g.path) = some i := by
          rw [List.findIdx?_eq_some_iff_getElem]
          exact ⟨hlt, hin, fun j hj => by rw [hN j (by omega) hj]; simp⟩
        rw [this]; rfl
      | false =>
        rw [hin] at hC
        refine pa [.b true, .v .top, .v (filA l[i]), .k (.bool false), .b false] rfl ?_ ?_
        · (repeat' with_reducible apply AllP_cons) <;> try exact aC
          · show 3 ≤ ((celsF l).drop (offN 0 (mulN (i : Int).toNat 3))).length
            rw [cels_off, List.length_drop, cels_len]; omega
          · show filA l[i] = .agg (List.take 3 ((celsF l).drop (offN 0 (mulN (i : Int).toNat 3))))
            obtain ⟨r, hr⟩ := cels_at hlt
            rw [cels_off, hr]; rfl
        refine S_round (i + 1) (by show l.length - (i + 1) < l.length - i; omega) ⟨hlt, fun k hk h => ?_⟩ (.cons rfl (.cons rfl (.cons rfl (.cons (nX (by omega)) (.nil _))))) rfl
        have h : k < i + 1 := h
        by_cases hki : k < i
        · exact hN k hk hki
        · have : k = i := by omega
          subst this; exact hin
    · have e1 : decide ((i : Int) < (l.length : Int)) = false := decide_eq_false (by omega)
      refine pB [.b false] rfl ?_
      refine S_ret ⟨_, _, rfl, trivial, ?_, rfl⟩
      have : l.findIdx? (fun g => insT f.path g.path) = none := by
        rw [List.findIdx?_eq_none_iff]
        intro x hx
        obtain ⟨k, hk, rfl⟩ := List.getElem_of_mem hx
        exact hN k hk (by omega)
      rw [this]; rfl
theorem ContainsFuncF_ok (v : Nat) (f : Fil) (w : Nat) (l : List Fil) (hf : f.path.length ≤ 1000000000000) (hl : l.length ≤ 1000000000) :
    CallOk cx 30 [.ms 1 w 0 l.length 3 false, .func (.func 31) [] [.ptr 0 v 0]] (fBx v f w l) (fun o s => o = .ret (.bool (l.any fun g => insT f.path g.path)) ∧ s = fBx v f w l) :=
  callOk_intro (fun a w => Tryz.call30 a w) Tryz.func30 rfl Tryz.ntmps30 rfl fun B => by
    have hI := IndexFuncF_ok v f w l hf hl
    refine pB [.k (.int .i64 (match l.findIdx? (fun g => insT f.path g.path) with | some i => (i : Int) | none => -1))] rfl ?_
    refine S_ret ⟨_, _, rfl, trivial, ?_, rfl⟩
    show Out.ret (.bool (decide ((match l.findIdx? (fun g => insT f.path g.path) with | some i => (i : Int) | none => -1) ≥ 0))) = _
    congr 2
    cases h : l.findIdx? (fun g => insT f.path g.path) with
    | none =>
      rw [List.findIdx?_eq_none_iff] at h
      rw [List.any_eq_false.2 (fun x hx => by have := h x hx; rw [this]; simp)]; rfl
    | some i =>
      rw [List.findIdx?_eq_some_iff_getElem] at h
      obtain ⟨h1, h2, _⟩ := h
      rw [List.any_eq_true.2 ⟨_, List.getElem_mem h1, h2⟩]
      show decide ((i : Int) ≥ 0) = true
      exact decide_eq_true (by omega)
end Go.Proofs.YtjkeekbfgnmngaaGreatDoor
end
section
set_option linter.unusedVariables false
set_option linter.unusedSimpArgs false
set_option maxRecDepth 20000
set_option maxHeartbeats 4000000
namespace Go.Proofs.YtjkeekbfgnmngaaGreatDoor
open Go Go.Ab
def ksP (l : List Fil) : List (List UInt8) := l.foldl (fun ks f => addU ks f.path) []
def lastF (l : List Fil) (p : List UInt8) : Fil := (l.reverse.find? (fun f => f.path == p)).getD ⟨[], [], false⟩
def vaP (l : List Fil) : List UInt8 → AV := fun p => filA (lastF l p)
def ovT (c : List Fil) : List Fil := (sortT (ksP c)).map (lastF c)
def ovX (o : List Fil) : Nat := if (o.any fun f => o.any fun g => insT f.path g.path) = true then 6 else if 60 < o.length then 2 else 0
def ovE (a b : List Fil) : Nat := if (if chkT a = 0 then chkT b else chkT a) = 0 then ovX (ovT (a ++ b)) else (if chkT a = 0 then chkT b else chkT a)
theorem ksP_mem {l : List Fil} {p : List UInt8} : p ∈ ksP l ↔ ∃ f ∈ l, f.path = p := by
  unfold ksP; rw [addU_fold_mem]; simp
theorem ksP_nodup (l : List Fil) : (ksP l).Nodup := addU_fold_nodup _ l [] .nil
theorem ksP_len (l : List Fil) : (ksP l).length ≤ l.length := by
  have := addU_fold_len (fun f : Fil => f.path) l []
  simpa [ksP] using this
theorem ksP_step {l : List Fil} {i : Nat} (h : i < l.length) : ksP (l.take (i + 1)) = addU (ksP (l.take i)) l[i].path := by
  unfold ksP; rw [List.take_succ_eq_append_getElem h, List.foldl_append]; rfl
theorem lastF_step {l : List Fil} {i : Nat} (h : i < l.length) (p : List UInt8) : lastF (l.take (i + 1)) p = if p = l[i].path then l[i] else lastF (l.take i) p := by
  unfold lastF
  rw [List.take_succ_eq_append_getElem h, List.reverse_append]
  show ((l[i] :: (l.take i).reverse).find? _).getD _ = _
  rw [List.find?_cons]
  by_cases e : p = l[i].path
  · rw [if_pos e, show (l[i].path == p) = true by simp [e]]; rfl
  · rw [if_neg e, show (l[i].path == p) = false by simpa using Ne.symm e]
theorem lastF_mem {l : List Fil} {p : List UInt8} (h : p ∈ ksP l) : lastF l p ∈ l ∧ (lastF l p).path = p := by
  unfold lastF
  cases hq : l.reverse.find? (fun f => f.path == p) with
  | none =>
    rw [List.find?_eq_none] at hq
    obtain ⟨f, hf, e⟩ := ksP_mem.1 h
    exact absurd (by simpa using e) (hq f (by simpa using hf))
  | some f => exact ⟨by simpa using List.mem_of_find?_eq_some hq, by simpa using List.find?_some hq⟩
theorem mapP_step {l : List Fil} {i : Nat} (h : i < l.length) :
    mapBx (addK (ksP (l.take i)) l[i].path) (updF (vaP (l.take i)) l[i].path (filA l[i])) = mapBx (ksP (l.take (i + 1))) (vaP (l.take (i + 1))) := by
  unfold mapBx
  rw [ksP_step h]
  show some (Box.map (mapF (addU _ _) _) none) = some (Box.map (mapF (addU _ _) _) none)
  congr 2
  refine mapF_congr fun n _ => ?_
  unfold updF vaP
  rw [lastF_step h]
  split <;> rfl
theorem Over_raw {st fl st' fl' : Bool} (a b : List Fil) (ha : FilsOk a) (hb : FilsOk b) : CallOk cx 6 [.sl st fl 3 (fils a), .sl st' fl' 3 (fils b)] [] (RawF (ovT (a ++ b)) (ovE a b)) :=
  callOk_intro (fun a w => Tryz.call6 a w) Tryz.func6 rfl Tryz.ntmps6 rfl fun B => by
    have hB := both_ok (st := st) (fl := fl) (st' := st') (fl' := fl') a b ha hb
    have rt : ∀ (x : List Fil) (e : Nat), e ≠ 0 → flatAV (x, e) = .tup [.nils, .int .i64 (e : Nat)] := fun x e he => by unfold flatAV; rw [if_neg he]
    have rf : ∀ e : Int, Free true (.tup [.nils, .int .i64 e]) := fun e => .tup (by intro x hx; simp at hx; rcases hx with rfl | rfl; exact .nils; exact .int)
    have hfr : ∀ σ : Heap, Frzs σ [.sl st fl 3 (fils a), .sl st' fl' 3 (fils b)] [.sl st fl 3 (fils a), .sl st' fl' 3 (fils b)] := fun σ => .cons (.refl (.sl (fun h => by cases h) (fils_free a))) (.cons (.refl (.sl (fun h => by cases h) (fils_free b))) (.nil _))
    unfold ovE
    obtain ⟨e, he⟩ : ∃ e, e = if chkT a = 0 then chkT b else chkT a := ⟨_, rfl⟩
    rw [← he] at hB ⊢
    by_cases h0 : e = 0
    case neg =>
      rw [if_neg h0]
      refine pa [.v (.int .i64 (e : Nat)), .b true] rfl ?_ ?_
      · (repeat' with_reducible apply AllP_cons) <;> try exact aC
        · exact ⟨_, hB, hfr _⟩
        · show (((e : Int)) != 0) = true
          rw [chk_bne]; simpa using h0
      exact S_ret ⟨_, _, rfl, trivial, .inl ⟨by first | assumption | decide, rfl⟩⟩
    rw [if_pos h0]
    rw [h0] at hB he
    have hca : chkT a = 0 := by
      by_cases h : chkT a = 0
      · exact h
      · rw [if_neg h] at he; exact absurd he.symm h
    have hcb : chkT b = 0 := by rw [if_pos hca] at he; exact he.symm
    have hda := DirOk.of hca
    have hdb := DirOk.of hcb
    have hCC := Concat_ok (st := st) (fl := fl) (st' := st') (fl' := fl') a b ha.len hb.len
    obtain ⟨c, hc⟩ : ∃ c, c = a ++ b := ⟨_, rfl⟩
    rw [← hc] at hCC ⊢
    have hcl : c.length ≤ 120 := by rw [hc, List.length_append]; have := hda.len; have := hdb.len; omega
    have hcp : ∀ f ∈ c, f.path.length ≤ 100 := by
      intro f hf
      rw [hc] at hf
      rcases List.mem_append.1 hf with hf | hf
      · exact (path_fst (hda.path f hf)).2.1
      · exact (path_fst (hdb.path f hf)).2.1
    have hcn := fils_len c
    refine pa [.v (.int .i64 ((0 : Nat) : Int)), .b false, .f (.map 0 0) (fun _ => [(0, some (.map [] (some ([], 0))))]), .v (.sl true false 3 (fils c))] rfl ?_ ?_
    · (repeat' with_reducible apply AllP_cons) <;> try exact aC
      · exact ⟨_, hB, hfr _⟩
      · exact OpSpec.mapN (C := []) rfl trivial
      · exact ⟨_, hCC, .cons (.refl (.sl (fun h => by cases h) (by intro x hx; simp at hx; rcases hx with rfl | rfl; exact .sl (fun h => by cases h) (fils_free a); exact .sl (fun h => by cases h) (fils_free b)))) (.nil _)⟩
    refine S_unstamp (id := 0) rfl ?_ ⟨_, _, .inl rfl⟩
    refine S_dead ?_ ⟨_, _, .inl rfl⟩
    refine S_while (α := Nat) (fun i => [(7, .map 0 0), (25, .sl true false 3 (fils c)), (26, .int .i64 (((fils c).length : Nat) : Int)), (27, .int .i64 (i : Nat))]) (fun i => [(0, mapBx (ksP (c.take i)) (vaP (c.take i))), (i, none)]) (fun i => i ≤ c.length) (fun i => c.length - i) 0
      (Nat.zero_le _) (.cons rfl (.cons rfl (.cons rfl (.cons rfl (.nil _))))) rfl ?_
    intro i hi
    have hi : i ≤ c.length := hi
    by_cases hlt : i < c.length
    · have e1 : decide ((i : Int) < (((fils c).length : Nat) : Int)) = true := decide_eq_true (by omega)
      have g1 : (fils c)[(i : Int).toNat]? = some (filA c[i]) := fils_get hlt
      refine pa [.b true, .v (filA c[i]), .f (.tup []) (fun σ => (0, mapBx (addK (ksP (c.take i)) c[i].path) (updF (vaP (c.take i)) c[i].path (filA c[i]))) :: σ.tail), .s] rfl ?_ ?_
      · (repeat' with_reducible apply AllP_cons) <;> try exact aC
        · exact OpSpec.mput (kt := 9) (et := 25) (ks := ksP (c.take i)) (val := vaP (c.take i)) (s := c[i].path) rfl (Tryz.underlying55) rfl rfl rfl rfl rfl (ksP_nodup _) rfl
      refine S_drop (id := 1) rfl ?_ ⟨.skip, _, .inr ⟨_, _, _, rfl⟩⟩
      refine S_heap [(0, mapBx (ksP (c.take (i + 1))) (vaP (c.take (i + 1)))), (i + 1, none)] ?_ ?_
      · rw [← mapP_step hlt]; rfl
      refine pB [] rfl ?_
      exact S_round (i + 1) (by show c.length - (i + 1) < c.length - i; omega) hlt (.cons rfl (.cons rfl (.cons rfl (.cons (nX (by omega)) (.nil _))))) rfl
    have hil : i = c.length := by omega
    subst hil
    have e1 : decide ((c.length : Int) < (((fils c).length : Nat) : Int)) = false := decide_eq_false (by omega)
    rw [List.take_length]
    generalize hu : c.length = u at *
    have hkn := ksP_nodup c
    have hkl := ksP_len c
    refine pa [.b false, .f (.func (.func 70) [] [.ptr 1 (u + 1) 0]) (fun σ => (0, mapBx (ksP c) (vaP c)) :: [(u + 1, some (.cells [.map 0 0] ⟨false, some 55⟩))]), .k (.sl true false 1 ((sortT (ksP c)).map AV.str)), .s] rfl ?_ ?_
    · (repeat' with_reducible apply AllP_cons) <;> try exact aC
      · exact KeysF_ok rfl
      · exact SortedF_ok (ks := ksP c) (val := vaP c) rfl rfl hkn (by omega) (fun p hp => by
          obtain ⟨f, hf, rfl⟩ := ksP_mem.1 hp
          have := hcp f hf; omega)
    refine S_drop (id := 1) rfl ?_ ⟨.skip, _, .inr ⟨_, _, _, rfl⟩⟩
    refine pB [] rfl ?_
    refine S_ghostF (t := 10) 3 ⟨false, none⟩ rfl rfl ⟨_, _, .inl rfl⟩ ?_
    have hsl : (sortT (ksP c)).length ≤ 120 := by rw [(sortT_perm _).length_eq]; omega
    have hkm : ∀ p ∈ sortT (ksP c), p ∈ ksP c := fun p hp => (sortT_perm _).mem_iff.1 hp
    have hov : ovT c = (sortT (ksP c)).map (lastF c) := rfl
    rw [hov]
    generalize hks : sortT (ksP c) = ks at *
    have hkt : (ks.map AV.str).length = ks.length := List.length_map ..
    refine S_while (α := Nat) (fun j => [(7, .map 0 0), (10, .ms 1 (u + 2 + j) 0 j 3 false), (38, .sl true false 1 (ks.map AV.str)), (39, .int .i64 (((ks.map AV.str).length : Nat) : Int)), (40, .int .i64 (j : Nat))]) (fun j => [(0, mapBx (ksP c) (vaP c)), (u + 2 + j, some (.cells (celsF ((ks.take j).map (lastF c))) ⟨false, none⟩))]) (fun j => j ≤ ks.length) (fun j => ks.length - j) 0
      (Nat.zero_le _) (.cons rfl (.cons rfl (.cons rfl (.cons rfl (.cons rfl (.nil _)))))) rfl ?_
    intro j hj
    have hj : j ≤ ks.length := hj
    by_cases hjt : j < ks.length
    · have e2 : decide ((j : Int) < (((ks.map AV.str).length : Nat) : Int)) = true := decide_eq_true (by omega)
      have g2 : (ks.map AV.str)[(j : Int).toNat]? = some (.str ks[j]) := by rw [Int.toNat_natCast, List.getElem?_map, List.getElem?_eq_getElem hjt]; rfl
      have hn := hkm _ (List.getElem_mem hjt)
      have hcl2 : (celsF ((ks.take j).map (lastF c))).length = j * 3 := by rw [cels_len, List.length_map, List.length_take, Nat.min_eq_left (by omega)]
      refine pa [.b true, .v (.str ks[j]), .v (filA (lastF c ks[j]))] rfl ?_ ?_
      · (repeat' with_reducible apply AllP_cons) <;> try exact aC
        · exact OpSpec.mget (kt := 9) (et := 25) (ks := ksP c) (val := vaP c) (s := ks[j]) (z := .agg [.str [], .str [], .bool false]) rfl (Tryz.underlying55) rfl rfl rfl rfl rfl (by rw [if_pos hn]; rfl)
        · show 0 + j * 3 = _
          omega
        · show (j + 1) * 40 ≤ 140737488355328
          omega
      refine S_round (j + 1) (by show ks.length - (j + 1) < ks.length - j; omega) hjt (.cons rfl (.cons rfl (.cons rfl (.cons rfl (.cons (nX (by omega)) (.nil _)))))) ?_
      rw [List.take_succ_eq_append_getElem hjt, List.map_append]
      show _ = [(0, mapBx (ksP c) (vaP c)), (u + 2 + (j + 1), some (.cells (celsF ((ks.take j).map (lastF c) ++ [lastF c ks[j]])) ⟨false, none⟩))]
      rw [celsF_add]; rfl
    have hje : j = ks.length := by omega
    subst hje
    have e2 : decide ((ks.length : Int) < (((ks.map AV.str).length : Nat) : Int)) = false := decide_eq_false (by omega)
    rw [List.take_length]
    obtain ⟨o, ho⟩ : ∃ o, o = ks.map (lastF c) := ⟨_, rfl⟩
    rw [← ho]
    have hol : o.length = ks.length := by rw [ho, List.length_map]
    have hop : ∀ f ∈ o, f.path.length ≤ 1000000000000 := by
      intro f hf
      rw [ho] at hf
      obtain ⟨p, hp, rfl⟩ := List.mem_map.1 hf
      have h1 := lastF_mem (hkm p hp)
      have := hcp _ h1.1; omega
    rw [← hol]
    generalize hw : u + 2 + o.length = w
    have hocl := cels_len o
    refine pan 6 [.b false] rfl ?_ ?_
    · (repeat' with_reducible apply AllP_cons) <;> try exact aC
    refine S_drop (id := 0) rfl ?_ ⟨_, _, .inl rfl⟩
    refine pB [] rfl ?_
    refine S_while (α := Nat) (fun k => [(10, .ms 1 w 0 o.length 3 false), (51, .ms 1 w 0 o.length 3 false), (52, .int .i64 (o.length : Nat)), (53, .int .i64 (k : Nat))]) (fun k => [(k, none), (w, some (.cells (celsF o) ⟨false, none⟩))]) (fun k => k ≤ o.length ∧ ∀ j (hj : j < o.length), j < k → (o.any fun g => insT o[j].path g.path) = false) (fun k => o.length - k) 0
      ⟨Nat.zero_le _, fun j hj h => absurd h (Nat.not_lt_zero _)⟩ (.cons rfl (.cons rfl (.cons rfl (.cons rfl (.nil _))))) rfl ?_
    rintro k ⟨hk, hK⟩
    have hk : k ≤ o.length := hk
    by_cases hkt : k < o.length
    · have e3 : decide ((k : Int) < (o.length : Int)) = true := decide_eq_true (by omega)
      have hF := ContainsFuncF_ok (k + 1) o[k] w o (hop _ (List.getElem_mem hkt)) (by omega)
      have c1 : 3 ≤ ((celsF o).drop (offN 0 (mulN (k : Int).toNat 3))).length := by
        rw [cels_off, List.length_drop, cels_len]; omega
      have c2 : filA o[k] = .agg (List.take 3 ((celsF o).drop (offN 0 (mulN (k : Int).toNat 3)))) := by
        obtain ⟨r, hr⟩ := cels_at hkt
        rw [cels_off, hr]; rfl
      cases hin : o.any fun g => insT o[k].path g.path with
      | true =>
        rw [hin] at hF
        have hX : ovX o = 6 := by
          unfold ovX
          rw [if_pos (List.any_eq_true.2 ⟨_, List.getElem_mem hkt, hin⟩)]
        rw [hX]
        refine pa [.b true, .v .top, .v (filA o[k]), .k (.bool true), .b true] rfl ?_ ?_
        · (repeat' with_reducible apply AllP_cons) <;> try exact aC
          all_goals first | exact c1 | exact c2 | exact hF
        exact S_ret ⟨_, _, rfl, trivial, .inl ⟨by first | assumption | decide, rfl⟩⟩
      | false =>
        rw [hin] at hF
        refine pa [.b true, .v .top, .v (filA o[k]), .k (.bool false), .b false, .s] rfl ?_ ?_
        · (repeat' with_reducible apply AllP_cons) <;> try exact aC
          all_goals first | exact c1 | exact c2 | exact hF
        refine S_drop (id := 0) rfl ?_ ⟨.skip, _, .inr ⟨_, _, _, rfl⟩⟩
        refine pB [] rfl ?_
        refine S_round (k + 1) (by show o.length - (k + 1) < o.length - k; omega) ⟨hkt, fun j hj h => ?_⟩ (.cons rfl (.cons rfl (.cons rfl (.cons (nX (by omega)) (.nil _))))) rfl
        have h : j < k + 1 := h
        by_cases hjk : j < k
        · exact hK j hj hjk
        · have : j = k := by omega
          subst this; exact hin
    · have e3 : decide ((k : Int) < (o.length : Int)) = false := decide_eq_false (by omega)
      have hno : (o.any fun f => o.any fun g => insT f.path g.path) = false := by
        rw [List.any_eq_false]
        intro f hf
        obtain ⟨j, hj, rfl⟩ := List.getElem_of_mem hf
        rw [hK j hj (by omega)]; simp
      by_cases h60 : 60 < o.length
      · have hX : ovX o = 2 := by unfold ovX; rw [hno, if_neg (by simp), if_pos h60]
        have e4 : decide ((o.length : Int) > 60) = true := decide_eq_true (by omega)
        rw [hX]
        refine pB [.b false, .b true] rfl ?_
        exact S_ret ⟨_, _, rfl, trivial, .inl ⟨by first | assumption | decide, rfl⟩⟩
      · have hX : ovX o = 0 := by unfold ovX; rw [hno, if_neg (by simp), if_neg h60]
        have e4 : decide ((o.length : Int) > 60) = false := decide_eq_false (by omega)
        rw [hX]
        refine pB [.b false, .b false] rfl ?_
        exact S_ret ⟨_, _, rfl, trivial, .inr ⟨rfl, _, _, rfl, rfl⟩⟩
end Go.Proofs.YtjkeekbfgnmngaaGreatDoor
end
section
set_option linter.unusedVariables false
set_option linter.unusedSimpArgs false
set_option maxRecDepth 20000
set_option maxHeartbeats 4000000
namespace Go.Proofs.YtjkeekbfgnmngaaGreatDoor
open Go Go.Ab
def setT (l : List (List UInt8)) : List (List UInt8) := sortT (l.foldl addU [])
theorem fold_mem {x : List UInt8} (l a : List (List UInt8)) : x ∈ l.foldl addU a ↔ x ∈ a ∨ x ∈ l := by
  have := addU_fold_mem (fun t : List UInt8 => t) (x := x) l a
  rw [this]
  constructor
  · rintro (h | ⟨f, h, rfl⟩)
    · exact .inl h
    · exact .inr h
  · rintro (h | h)
    · exact .inl h
    · exact .inr ⟨x, h, rfl⟩
theorem nodup_perm {a b : List (List UInt8)} (ha : a.Nodup) (hb : b.Nodup) (h : ∀ x, x ∈ a ↔ x ∈ b) : a.Perm b := by
  exact (List.perm_ext_iff_of_nodup ha hb).2 h
theorem setT_ext {a b : List (List UInt8)} (h : ∀ x, x ∈ a ↔ x ∈ b) : setT a = setT b :=
  sortT_eq (nodup_perm (foldU_nodup .nil) (foldU_nodup .nil) fun x => by rw [fold_mem, fold_mem, h x])
theorem setT_of {l : List (List UInt8)} (h : l.Nodup) : setT l = sortT l :=
  sortT_eq (nodup_perm (foldU_nodup .nil) h fun x => by rw [fold_mem]; simp)
theorem setT_len (l : List (List UInt8)) : (setT l).length ≤ l.length := by
  unfold setT
  rw [(sortT_perm _).length_eq]
  have := addU_fold_len (fun t : List UInt8 => t) l []
  simpa using this
theorem und_mem {l : List Fil} {dir : List UInt8} {g : Fil} : g ∈ undT l dir ↔ ∃ f ∈ l, insT dir f.path = true ∧ cutF dir f = g := by
  unfold undT
  simp only [List.mem_map, List.mem_filter]
  constructor
  · rintro ⟨f, ⟨h1, h2⟩, h3⟩; exact ⟨f, h1, h2, h3⟩
  · rintro ⟨f, h1, h2, h3⟩; exact ⟨f, ⟨h1, h2⟩, h3⟩
theorem drop_dir (dir x : List UInt8) : (dir ++ [47] ++ x).drop (dir.length + 1) = x := by
  have e : dir.length + 1 = (dir ++ [47]).length := by simp
  rw [e, List.drop_left]
theorem ins_cut {dir p : List UInt8} (h : insT dir p = true) : p = dir ++ [47] ++ p.drop (dir.length + 1) := by
  unfold insT at h
  rw [List.isPrefixOf_iff_prefix] at h
  obtain ⟨x, rfl⟩ := h
  rw [drop_dir]
end Go.Proofs.YtjkeekbfgnmngaaGreatDoor
end
section
set_option linter.unusedVariables false
set_option linter.unusedSimpArgs false
set_option maxRecDepth 20000
set_option maxHeartbeats 4000000
namespace Go.Proofs.YtjkeekbfgnmngaaGreatDoor
open Go Go.Ab
theorem fok_of {d : Nat} {l : List Fil} (h : DirOk d l) : FilsOk l :=
  ⟨by have := h.len; omega, fun f hf => by have := (path_fst (h.path f hf)).2.1; omega, fun f hf => by have := h.text f hf; omega⟩
theorem split_app (d x : List UInt8) : splitB 47 (d ++ 47 :: x) = splitB 47 d ++ splitB 47 x := by
  induction d with
  | nil =>
    show splitB 47 (47 :: x) = [] :: splitB 47 x
    rw [splitB, if_pos rfl]
  | cons c d ih =>
    by_cases hc : c = 47
    · rw [List.cons_append, splitB, if_pos hc, splitB, if_pos hc, ih]; rfl
    · rw [List.cons_append, splitB, if_neg hc, splitB, if_neg hc, ih]
      cases hs : splitB 47 d with
      | nil => exact absurd hs (splitB_ne _ _)
      | cons p ps => rfl
theorem pre_lt (p x y : List UInt8) : p ++ x < p ++ y ↔ x < y := by
  induction p with
  | nil => exact Iff.rfl
  | cons c p ih =>
    rw [List.cons_append, List.cons_append, List.cons_lt_cons_iff]
    constructor
    · rintro (h | ⟨_, h⟩)
      · exact absurd h (UInt8.lt_irrefl _)
      · exact ih.1 h
    · intro h; exact .inr ⟨rfl, ih.2 h⟩
theorem pre_ins (p x y : List UInt8) : insT (p ++ x) (p ++ y) = insT x y := by
  unfold insT
  induction p with
  | nil => rfl
  | cons c p ih =>
    rw [List.cons_append, List.cons_append, List.cons_append, List.isPrefixOf_cons_cons]
    simpa using ih
theorem und_dirOk {l : List Fil} (h : DirOk 101 l) (dir : List UInt8) : DirOk 101 (undT l dir) := by
  have hmem : ∀ g ∈ undT l dir, ∃ f ∈ l, insT dir f.path = true ∧ f.path = dir ++ [47] ++ g.path ∧ g.text = f.text := by
    intro g hg
    obtain ⟨f, hf, hi, rfl⟩ := und_mem.1 hg
    exact ⟨f, hf, hi, ins_cut hi, rfl⟩
  have hpath : ∀ g ∈ undT l dir, isPathB g.path = true := by
    intro g hg
    obtain ⟨f, hf, _, e, _⟩ := hmem g hg
    have hp := h.path f hf
    rw [e, List.append_assoc] at hp
    unfold isPathB at hp ⊢
    rw [show dir ++ ([47] ++ g.path) = dir ++ 47 :: g.path from rfl, split_app, List.all_append] at hp
    simp only [Bool.and_eq_true, decide_eq_true_eq, List.length_append, List.length_cons] at hp ⊢
    exact ⟨hp.1.2, by omega⟩
  refine ⟨Nat.le_trans (und_len _ _) h.len, hpath, fun g hg => ?_, ⟨?_, ?_⟩, fun g hg => ?_⟩
  · obtain ⟨f, hf, _, _, e⟩ := hmem g hg
    rw [e]; exact h.text f hf
  · unfold undT
    rw [List.pairwise_map]
    refine List.Pairwise.imp_of_mem ?_ (h.ok.1.filter _)
    intro f g hf hg hfg
    have e1 := ins_cut (List.mem_filter.1 hf).2
    have e2 := ins_cut (List.mem_filter.1 hg).2
    rw [bl_eq, decide_eq_true_eq, e1, e2, pre_lt] at hfg
    show Op.bytesLess (f.path.drop (dir.length + 1)) (g.path.drop (dir.length + 1)) = true
    rw [bl_eq, decide_eq_true_eq]; exact hfg
  · intro f hf g hg
    obtain ⟨f', hf', _, e1, _⟩ := hmem f hf
    obtain ⟨g', hg', _, e2, _⟩ := hmem g hg
    have := h.ok.2 f' hf' g' hg'
    rw [e1, e2, pre_ins] at this; exact this
  · have := (path_fst (hpath g hg)).2.1; omega
theorem ov_mem {c : List Fil} {f : Fil} : f ∈ ovT c ↔ ∃ p ∈ ksP c, lastF c p = f := by
  unfold ovT
  rw [List.mem_map]
  constructor
  · rintro ⟨p, hp, h⟩; exact ⟨p, (sortT_perm _).mem_iff.1 hp, h⟩
  · rintro ⟨p, hp, h⟩; exact ⟨p, (sortT_perm _).mem_iff.2 hp, h⟩
theorem ov_sub {c : List Fil} {f : Fil} (h : f ∈ ovT c) : f ∈ c := by
  obtain ⟨p, hp, rfl⟩ := ov_mem.1 h
  exact (lastF_mem hp).1
theorem ov_dirOk {a b : List Fil} (ha : DirOk 101 a) (hb : DirOk 101 b) (h : ovX (ovT (a ++ b)) = 0) : DirOk 101 (ovT (a ++ b)) := by
  have hmem : ∀ f ∈ ovT (a ++ b), f ∈ a ∨ f ∈ b := fun f hf => List.mem_append.1 (ov_sub hf)
  have hpath : ∀ f ∈ ovT (a ++ b), isPathB f.path = true := fun f hf => (hmem f hf).elim (ha.path f) (hb.path f)
  unfold ovX at h
  split at h
  · cases h
  rename_i h1
  split at h
  · cases h
  rename_i h2
  refine ⟨by omega, hpath, fun f hf => (hmem f hf).elim (ha.text f) (hb.text f), ⟨?_, ?_⟩, fun f hf => ?_⟩
  · rw [List.pairwise_iff_getElem]
    intro i j hi hj hij
    have e : ∀ k (hk : k < (ovT (a ++ b)).length), (ovT (a ++ b))[k].path = (sortT (ksP (a ++ b)))[k]'(by simpa [ovT] using hk) := by
      intro k hk
      have hk' : k < (sortT (ksP (a ++ b))).length := by simpa [ovT] using hk
      have : (ovT (a ++ b))[k] = lastF (a ++ b) ((sortT (ksP (a ++ b)))[k]'hk') := List.getElem_map (lastF (a ++ b))
      rw [this]
      exact (lastF_mem ((sortT_perm _).mem_iff.1 (List.getElem_mem hk'))).2
    rw [e i hi, e j hj, bl_eq, decide_eq_true_eq]
    exact sort_lt (ksP_nodup _) hij _
  · intro f hf g hg
    cases hi : insT f.path g.path with
    | false => rfl
    | true => exact absurd (List.any_eq_true.2 ⟨f, hf, List.any_eq_true.2 ⟨g, hg, hi⟩⟩) h1
  · have := (path_fst (hpath f hf)).2.1; omega
end Go.Proofs.YtjkeekbfgnmngaaGreatDoor
end
section
set_option linter.unusedVariables false
set_option linter.unusedSimpArgs false
set_option maxRecDepth 20000
set_option maxHeartbeats 4000000
namespace Go.Proofs.YtjkeekbfgnmngaaGreatDoor
open Go Go.Ab
def ksG (c : List Fil) : List Fil := c.foldl addG []
def cntV (c : List Fil) : Fil → AV := fun f => .int .i64 (c.count f : Nat)
def difT (c : List Fil) : List (List UInt8) := setT ((c.filter fun f => c.count f == 1).map Fil.path)
theorem ksG_add (c : List Fil) (f : Fil) : ksG (c ++ [f]) = addG (ksG c) f := by unfold ksG; rw [List.foldl_append]; rfl
theorem foldG_nodup : ∀ (c a : List Fil), a.Nodup → (c.foldl addG a).Nodup
  | [], a, h => h
  | f :: c, a, h => foldG_nodup c _ (addG_nodup h)
theorem ksG_nodup (c : List Fil) : (ksG c).Nodup := foldG_nodup c [] .nil
theorem foldG_mem {f : Fil} : ∀ (c a : List Fil), f ∈ c.foldl addG a ↔ f ∈ a ∨ f ∈ c
  | [], a => by simp
  | x :: c, a => by
    rw [List.foldl_cons, foldG_mem c, addG_mem, List.mem_cons]
    exact or_assoc
theorem ksG_mem {c : List Fil} {f : Fil} : f ∈ ksG c ↔ f ∈ c := by unfold ksG; rw [foldG_mem]; simp
theorem cntV_no {c : List Fil} {f : Fil} (h : f ∉ ksG c) : cntV c f = .int .i64 0 := by
  unfold cntV; rw [List.count_eq_zero_of_not_mem (fun e => h (ksG_mem.2 e))]; rfl
theorem cntV_add {c : List Fil} (f : Fil) (h : c.length ≤ 1000000) : updG (cntV c) f (.int .i64 (IntKind.i64.wrap (((c.count f : Nat) : Int) + 1))) = cntV (c ++ [f]) := by
  funext k
  unfold updG cntV
  have h1 := List.count_le_length (a := f) (l := c)
  by_cases hk : k = f
  · subst hk
    have hw : IntKind.i64.wrap (((c.count k : Nat) : Int) + 1) = ((c.count k + 1 : Nat) : Int) := w64 (by omega) (by omega)
    rw [if_pos rfl, List.count_append, List.count_singleton_self, hw]
  · rw [if_neg hk, List.count_append, List.count_singleton, if_neg (by simpa using Ne.symm hk)]; rfl
theorem ksG_len (c : List Fil) : (ksG c).length ≤ c.length := by
  exact List.Nodup.length_le_of_subset (ksG_nodup c) fun f hf => ksG_mem.1 hf
theorem fileKey : KeyLaw cx 25 filA :=
  KeyLaw.struct (parts := fun f : Fil => [.str f.path, .str f.text, .bool f.run]) Tryz.underlying25 (by kernel_rfl) (fun a => rfl) (fun a => rfl) (fun a b => by
    show some ((a.path == b.path) && ((a.text == b.text) && ((a.run == b.run) && true))) = _
    congr 1
    obtain ⟨p, t, r⟩ := a
    obtain ⟨p', t', r'⟩ := b
    show ((p == p') && ((t == t') && ((r == r') && true))) = _
    by_cases h1 : p = p' <;> by_cases h2 : t = t' <;> by_cases h3 : r = r' <;> simp [h1, h2, h3])
theorem mapG_step {c : List Fil} (f : Fil) (h : c.length ≤ 1000000) : mapGx filA (addG (ksG c) f) (updG (cntV c) f (.int .i64 (IntKind.i64.wrap (((c.count f : Nat) : Int) + 1)))) = mapGx filA (ksG (c ++ [f])) (cntV (c ++ [f])) := by
  rw [ksG_add, cntV_add f h]
def ksD (c : List Fil) (sn : List Nat) : List (List UInt8) := sn.foldl (fun l i => match (ksG c)[i]? with
  | some f => if c.count f = 1 then addK l f.path else l
  | none => l) []
theorem ksD_add (c : List Fil) (sn : List Nat) {i : Nat} (h : i < (ksG c).length) : ksD c (sn ++ [i]) = if c.count (ksG c)[i] = 1 then addK (ksD c sn) (ksG c)[i].path else ksD c sn := by
  unfold ksD; rw [List.foldl_append]
  simp [List.getElem?_eq_getElem h]
theorem ksD_nodup (c : List Fil) (sn : List Nat) : (ksD c sn).Nodup := by
  unfold ksD
  suffices ∀ (sn : List Nat) (a : List (List UInt8)), a.Nodup → (sn.foldl (fun l i => match (ksG c)[i]? with
  | some f => if c.count f = 1 then addK l f.path else l
  | none => l) a).Nodup from this sn [] .nil
  intro sn
  induction sn with
  | nil => intro a h; exact h
  | cons i sn ih =>
    intro a h
    rw [List.foldl_cons]
    refine ih _ ?_
    split
    · split
      · exact addU_nodup h
      · exact h
    · exact h
theorem ksD_mem {c : List Fil} {x : List UInt8} (sn : List Nat) : x ∈ ksD c sn ↔ ∃ i ∈ sn, ∃ f, (ksG c)[i]? = some f ∧ c.count f = 1 ∧ f.path = x := by
  unfold ksD
  suffices ∀ (sn : List Nat) (a : List (List UInt8)), x ∈ (sn.foldl (fun l i => match (ksG c)[i]? with
  | some f => if c.count f = 1 then addK l f.path else l
  | none => l) a) ↔ x ∈ a ∨ ∃ i ∈ sn, ∃ f, (ksG c)[i]? = some f ∧ c.count f = 1 ∧ f.path = x by
    rw [this]; simp
  intro sn
  induction sn with
  | nil => simp
  | cons i sn ih =>
    intro a
    rw [List.foldl_cons, ih]
    have hstep : (x ∈ (match (ksG c)[i]? with
      | some f => if c.count f = 1 then addK a f.path else a
      | none => a)) ↔ x ∈ a ∨ ∃ f, (ksG c)[i]? = some f ∧ c.count f = 1 ∧ f.path = x := by
      cases hq : (ksG c)[i]? with
      | none => simp
      | some f =>
        by_cases h1 : c.count f = 1
        · simp only [h1, if_true, Option.some.injEq, exists_eq_left', true_and]
          have := addU_mem (l := a) (s := f.path) (x := x)
          rw [show addK a f.path = addU a f.path from rfl, this]
          exact or_congr Iff.rfl eq_comm
        · simp [h1]
    rw [hstep]
    simp only [List.mem_cons, exists_eq_or_imp]
    exact or_assoc
theorem ksD_all {c : List Fil} {sn : List Nat} (h : ∀ b ∈ List.range (ksG c).length, b ∈ sn) : sortT (ksD c sn) = difT c := by
  unfold difT
  rw [← setT_of (ksD_nodup c sn)]
  refine setT_ext fun x => ?_
  rw [ksD_mem]
  simp only [List.mem_map, List.mem_filter, beq_iff_eq]
  constructor
  · rintro ⟨i, _, f, h1, h2, h3⟩
    exact ⟨f, ⟨ksG_mem.1 (List.mem_of_getElem? h1), h2⟩, h3⟩
  · rintro ⟨f, ⟨h1, h2⟩, h3⟩
    obtain ⟨i, hi, he⟩ := List.getElem_of_mem (ksG_mem.2 h1)
    exact ⟨i, h i (List.mem_range.2 hi), f, by rw [List.getElem?_eq_getElem hi, he], h2, h3⟩
def difE (a b : List Fil) : Nat := if chkT a = 0 then chkT b else chkT a
def RawD (x : List (List UInt8)) (e : Nat) (o : Out) (s : Heap) : Prop :=
  (e ≠ 0 ∧ o = .ret (.tup [.nils, .int .i64 (e : Nat)])) ∨ (e = 0 ∧ x = [] ∧ o = .ret (.tup [.sl true false 1 [], .int .i64 0])) ∨ (e = 0 ∧ ∃ id ver, o = .ret (.tup [.ms id ver 0 x.length 1 false, .int .i64 0]) ∧ s[id]? = some (ver, some (.cells (x.map AV.str) ⟨false, none⟩)))
theorem Differs_raw {st fl st' fl' : Bool} (a b : List Fil) (ha : FilsOk a) (hb : FilsOk b) : CallOk cx 8 [.sl st fl 3 (fils a), .sl st' fl' 3 (fils b)] [] (RawD (difT (a ++ b)) (difE a b)) :=
  callOk_intro (fun a w => Tryz.call8 a w) Tryz.func8 rfl Tryz.ntmps8 rfl fun B => by
    have hB := both_ok (st := st) (fl := fl) (st' := st') (fl' := fl') a b ha hb
    have hfr : ∀ σ : Heap, Frzs σ [.sl st fl 3 (fils a), .sl st' fl' 3 (fils b)] [.sl st fl 3 (fils a), .sl st' fl' 3 (fils b)] := fun σ => .cons (.refl (.sl (fun h => by cases h) (fils_free a))) (.cons (.refl (.sl (fun h => by cases h) (fils_free b))) (.nil _))
    rw [show (if chkT a = 0 then chkT b else chkT a) = difE a b from rfl] at hB
    by_cases h0 : difE a b = 0
    case neg =>
      generalize difE a b = e at *
      refine pa [.v (.int .i64 (e : Nat)), .b true] rfl ?_ ?_
      · (repeat' with_reducible apply AllP_cons) <;> try exact aC
        · exact ⟨_, hB, hfr _⟩
        · show (((e : Int)) != 0) = true
          rw [chk_bne]; simpa using h0
      exact S_ret ⟨_, _, rfl, trivial, .inl ⟨h0, rfl⟩⟩
    rw [h0]
    have hca : chkT a = 0 := by
      by_cases h : chkT a = 0
      · exact h
      · unfold difE at h0; rw [if_neg h] at h0; exact absurd h0 h
    have hcb : chkT b = 0 := by unfold difE at h0; rw [if_pos hca] at h0; exact h0
    rw [h0] at hB
    have hda := DirOk.of hca
    have hdb := DirOk.of hcb
    have hla := hda.len
    have hlb := hdb.len
    have hna := fils_len a
    have hnb := fils_len b
    refine pa [.v (.int .i64 ((0 : Nat) : Int)), .b false, .f (.map 0 0) (fun _ => [(0, some (.map [] (some ([], 0))))])] rfl ?_ ?_
    · (repeat' with_reducible apply AllP_cons) <;> try exact aC
      · exact ⟨_, hB, hfr _⟩
      · exact OpSpec.mapN (C := []) rfl trivial
    refine S_dead ?_ ⟨_, _, .inl rfl⟩
    refine S_while (α := Nat) (fun i => [(1, .sl st' fl' 3 (fils b)), (7, .map 0 0), (22, .sl st fl 3 (fils a)), (23, .int .i64 (((fils a).length : Nat) : Int)), (24, .int .i64 (i : Nat))]) (fun i => [(0, mapGx filA (ksG (a.take i)) (cntV (a.take i))), (i, none)]) (fun i => i ≤ a.length) (fun i => a.length - i) 0
      (Nat.zero_le _) (.cons rfl (.cons rfl (.cons rfl (.cons rfl (.cons rfl (.nil _)))))) rfl ?_
    intro i hi
    have hi : i ≤ a.length := hi
    by_cases hlt : i < a.length
    · have e1 : decide ((i : Int) < (((fils a).length : Nat) : Int)) = true := decide_eq_true (by omega)
      have g1 : (fils a)[(i : Int).toNat]? = some (filA a[i]) := fils_get hlt
      have hst := mapG_step (c := a.take i) a[i] (by rw [List.length_take]; omega)
      rw [← List.take_succ_eq_append_getElem hlt] at hst
      refine pa [.b true, .v (filA a[i]), .d 4 6 [] (fun σ => (0, mapGx filA (addG (ksG (a.take i)) a[i]) (cntV (a.take i))) :: σ.tail) [cntV (a.take i) a[i], .tup [cntV (a.take i) a[i], .int .i64 ((addG (ksG (a.take i)) a[i]).idxOf a[i] : Nat)]], .f (.tup []) (fun σ => (0, mapGx filA (addG (ksG (a.take i)) a[i]) (updG (cntV (a.take i)) a[i] (.int .i64 (IntKind.i64.wrap ((((a.take i).count a[i] : Nat) : Int) + 1))))) :: σ.tail), .s] rfl ?_ ?_
      · (repeat' with_reducible apply AllP_cons) <;> try exact aC
        all_goals first
          | exact OpSpec.gget (z := .int .i64 0) fileKey rfl (Tryz.underlying65) rfl rfl rfl rfl cntV_no
          | exact OpSpec.gget (z := .int .i64 0) fileKey rfl (Tryz.underlying65) rfl rfl rfl rfl (fun h => cntV_no fun h' => h (addG_mem.2 (.inl h')))
          | exact OpSpec.gentry (z := .int .i64 0) fileKey rfl (Tryz.underlying65) rfl rfl rfl rfl cntV_no rfl
          | exact OpSpec.gstore (s := a[i]) rfl rfl rfl rfl rfl (addG_mem.2 (.inr rfl)) (addG_nodup (ksG_nodup _)) rfl
      refine S_drop (id := 1) rfl ?_ ⟨.skip, _, .inr ⟨_, _, _, rfl⟩⟩
      refine S_heap [(0, mapGx filA (ksG (a.take (i + 1))) (cntV (a.take (i + 1)))), (i + 1, none)] ?_ ?_
      · rw [← hst]; rfl
      refine pB [] rfl ?_
      exact S_round (i + 1) (by show a.length - (i + 1) < a.length - i; omega) hlt (.cons rfl (.cons rfl (.cons rfl (.cons rfl (.cons (nX (by omega)) (.nil _)))))) rfl
    have hil : i = a.length := by omega
    subst hil
    have e1 : decide ((a.length : Int) < (((fils a).length : Nat) : Int)) = false := decide_eq_false (by omega)
    rw [List.take_length]
    obtain ⟨u, hu⟩ : ∃ u, u = a.length := ⟨_, rfl⟩
    rw [← hu]
    rw [← hu] at e1
    refine pB [.b false] rfl ?_
    refine S_while (α := Nat) (fun i => [(7, .map 0 0), (35, .sl st' fl' 3 (fils b)), (36, .int .i64 (((fils b).length : Nat) : Int)), (37, .int .i64 (i : Nat))]) (fun i => [(0, mapGx filA (ksG (a ++ b.take i)) (cntV (a ++ b.take i))), (u + i, none)]) (fun i => i ≤ b.length) (fun i => b.length - i) 0
      (Nat.zero_le _) (.cons rfl (.cons rfl (.cons rfl (.cons rfl (.nil _))))) (by rw [List.take_zero, List.append_nil]; rfl) ?_
    intro i hi
    have hi : i ≤ b.length := hi
    by_cases hlt : i < b.length
    · have e1 : decide ((i : Int) < (((fils b).length : Nat) : Int)) = true := decide_eq_true (by omega)
      have g1 : (fils b)[(i : Int).toNat]? = some (filA b[i]) := fils_get hlt
      obtain ⟨c, hc⟩ : ∃ c, c = a ++ b.take i := ⟨_, rfl⟩
      have hc' : a ++ b.take (i + 1) = c ++ [b[i]] := by rw [hc, List.take_succ_eq_append_getElem hlt, List.append_assoc]
      have hst := mapG_step (c := c) b[i] (by rw [hc, List.length_append, List.length_take]; omega)
      rw [← hc]
      refine pa [.b true, .v (filA b[i]), .d 4 6 [] (fun σ => (0, mapGx filA (addG (ksG c) b[i]) (cntV c)) :: σ.tail) [cntV c b[i], .tup [cntV c b[i], .int .i64 ((addG (ksG c) b[i]).idxOf b[i] : Nat)]], .f (.tup []) (fun σ => (0, mapGx filA (addG (ksG c) b[i]) (updG (cntV c) b[i] (.int .i64 (IntKind.i64.wrap (((c.count b[i] : Nat) : Int) + 1))))) :: σ.tail), .s] rfl ?_ ?_
      · (repeat' with_reducible apply AllP_cons) <;> try exact aC
        all_goals first
          | exact OpSpec.gget (z := .int .i64 0) fileKey rfl (Tryz.underlying65) rfl rfl rfl rfl cntV_no
          | exact OpSpec.gget (z := .int .i64 0) fileKey rfl (Tryz.underlying65) rfl rfl rfl rfl (fun h => cntV_no fun h' => h (addG_mem.2 (.inl h')))
          | exact OpSpec.gentry (z := .int .i64 0) fileKey rfl (Tryz.underlying65) rfl rfl rfl rfl cntV_no rfl
          | exact OpSpec.gstore (s := b[i]) rfl rfl rfl rfl rfl (addG_mem.2 (.inr rfl)) (addG_nodup (ksG_nodup _)) rfl
      refine S_drop (id := 1) rfl ?_ ⟨.skip, _, .inr ⟨_, _, _, rfl⟩⟩
      refine S_heap [(0, mapGx filA (ksG (c ++ [b[i]])) (cntV (c ++ [b[i]]))), (u + (i + 1), none)] ?_ ?_
      · rw [← hst]; rfl
      refine pB [] rfl ?_
      exact S_round (i + 1) (by show b.length - (i + 1) < b.length - i; omega) hlt (.cons rfl (.cons rfl (.cons rfl (.cons (nX (by omega)) (.nil _))))) (by rw [hc'])
    have hil : i = b.length := by omega
    subst hil
    have e1 : decide ((b.length : Int) < (((fils b).length : Nat) : Int)) = false := decide_eq_false (by omega)
    rw [List.take_length]
    generalize hw : u + b.length = w
    obtain ⟨c, hc⟩ : ∃ c, c = a ++ b := ⟨_, rfl⟩
    rw [← hc]
    have hcl : c.length ≤ 120 := by rw [hc, List.length_append]; omega
    have hkl := ksG_len c
    refine pa [.b false, .f (.map 1 (w + 1)) (fun σ => [(0, mapGx filA (ksG c) (cntV c)), (w + 1, some (.map [] (some ([], 0))))])] rfl ?_ ?_
    · (repeat' with_reducible apply AllP_cons) <;> try exact aC
      · exact OpSpec.mapN (C := []) rfl trivial
    refine S_unstamp (id := 1) rfl ?_ ⟨.skip, _, .inr ⟨_, _, _, rfl⟩⟩
    obtain ⟨N, hN⟩ : ∃ N, N = (ksG c).length := ⟨_, rfl⟩
    have hgx : ∀ v : Nat, ((v, mapGx filA (ksG c) (cntV c)) : Nat × Option Box) = (v, some (.map (mapG filA (ksG c) (cntV c)) (some (List.range N, N)))) := fun v => by rw [hN]; rfl
    rw [hgx]
    refine pa [.f (.ptr 2 0 0) (fun σ => [(0, some (.map (mapG filA (ksG c) (cntV c)) (some (List.range N, N)))), (w + 1, some (.map [] none)), (0, some (.miter 0 0 N [] N))])] rfl ?_ ?_
    · (repeat' with_reducible apply AllP_cons) <;> try exact aC
      · exact OpSpec.mapN (C := [0 = 0]) rfl ⟨rfl, trivial⟩
    refine S_dead ?_ ⟨_, _, .inl rfl⟩
    have hnat : ∀ sn : List Nat, sn.Nodup → (∀ x ∈ sn, x < N) → sn.length ≤ N := fun sn h1 h2 => by
      have := List.Nodup.length_le_of_subset (l₂ := List.range N) h1 fun x hx => List.mem_range.2 (h2 x hx)
      simpa using this
    refine S_while (α := List Nat) (fun sn => [(12, .map 1 (w + 1)), (50, .ptr 2 0 0)]) (fun sn => [(0, some (.map (mapG filA (ksG c) (cntV c)) (some (List.range N, N)))), (w + 1, mapBx (ksD c sn) (fun _ => .bool true)), (0, some (.miter 0 0 N sn N)), (sn.length, none)]) (fun sn => sn.Nodup ∧ ∀ x ∈ sn, x < N) (fun sn => N - sn.length) []
      ⟨.nil, fun x h => by cases h⟩ (.cons rfl (.cons rfl (.nil _))) rfl ?_
    rintro sn ⟨hs1, hs2⟩
    refine pB [] rfl ?_
    refine S_mnext (id := 2) (ver := 0) (mid := 0) (mver := 0) (since := N) (last := N) (c := N) (seen := sn) (bs := List.range N) (kvs := mapG filA (ksG c) (cntV c)) rfl rfl rfl rfl (fun b hb => List.mem_range.1 hb) (Nat.le_refl _) rfl rfl ?_ ?_
    · intro i bb hi hb hns
      have hi2 : i < (ksG c).length := by simpa [mapG] using hi
      obtain rfl : i = bb := by
        rw [List.getElem?_range (by omega)] at hb
        exact Option.some.inj hb
      have hkv : (mapG filA (ksG c) (cntV c))[i]? = some (filA (ksG c)[i], cntV c (ksG c)[i]) := by simp [mapG, List.getElem?_eq_getElem hi2]
      have hadd := ksD_add c sn hi2
      have hn2 : (sn ++ [i]).Nodup := List.nodup_append.2 ⟨hs1, by simp, fun a ha b hb => by simp at hb; subst hb; exact fun e => hns (e ▸ ha)⟩
      have hm2 : ∀ x ∈ sn ++ [i], x < N := fun x hx => by
        rcases List.mem_append.1 hx with hx | hx
        · exact hs2 x hx
        · simp at hx; omega
      have hlen2 := hnat _ hn2 hm2
      rw [List.length_append] at hlen2
      have hlen2 : sn.length + 1 ≤ N := hlen2
      obtain ⟨f, hf⟩ : ∃ f, f = (ksG c)[i] := ⟨_, rfl⟩
      rw [← hf] at hkv hadd
      by_cases hc1 : c.count f = 1
      · rw [if_pos hc1] at hadd
        have e2 : (((c.count f : Nat) : Int) == 1) = true := by rw [hc1]; rfl
        refine pa [.b true, .v (.tup [filA f, cntV c f]), .b true] rfl ?_ ?_
        · (repeat' with_reducible apply AllP_cons) <;> try exact aC
          · exact OpSpec.entryG (id := 2) (ver := 0) (mid := 0) (mver := 0) (since := N) (c := N) (i := i) (b := i) (seen := sn) (bs := List.range N) rfl rfl rfl rfl hb hkv
        refine pan 1 [.f (.tup []) (fun σ => σ.set 1 (w + 1, mapBx (addK (ksD c sn) f.path) (fun _ => .bool true)))] rfl ?_ ?_
        · (repeat' with_reducible apply AllP_cons) <;> try exact aC
          · exact OpSpec.mput (kt := 9) (et := 4) (ks := ksD c sn) (val := fun _ => .bool true) (s := f.path) (v := .bool true) rfl (Tryz.underlying66) rfl rfl rfl rfl rfl (ksD_nodup c sn) (by rw [updF_const])
        refine S_drop (id := 3) rfl ?_ ⟨.skip, _, .inr ⟨_, _, _, rfl⟩⟩
        refine S_heap [(0, some (.map (mapG filA (ksG c) (cntV c)) (some (List.range N, N)))), (w + 1, mapBx (ksD c (sn ++ [i])) (fun _ => .bool true)), (0, some (.miter 0 0 N (sn ++ [i]) N)), ((sn ++ [i]).length, none)] ?_ ?_
        · rw [hadd, List.length_append]; rfl
        refine pB [] rfl ?_
        exact S_round (sn ++ [i]) (by show N - (sn ++ [i]).length < N - sn.length; rw [List.length_append]; show N - (sn.length + 1) < _; omega) ⟨hn2, hm2⟩ (.cons rfl (.cons rfl (.nil _))) rfl
      · rw [if_neg hc1] at hadd
        have e2 : (((c.count f : Nat) : Int) == 1) = false := by simpa using fun h => hc1 (by omega)
        refine pa [.b true, .v (.tup [filA f, cntV c f])] rfl ?_ ?_
        · (repeat' with_reducible apply AllP_cons) <;> try exact aC
          · exact OpSpec.entryG (id := 2) (ver := 0) (mid := 0) (mver := 0) (since := N) (c := N) (i := i) (b := i) (seen := sn) (bs := List.range N) rfl rfl rfl rfl hb hkv
        refine S_drop (id := 3) rfl ?_ ⟨_, _, .inl rfl⟩
        refine S_heap [(0, some (.map (mapG filA (ksG c) (cntV c)) (some (List.range N, N)))), (w + 1, mapBx (ksD c (sn ++ [i])) (fun _ => .bool true)), (0, some (.miter 0 0 N (sn ++ [i]) N)), ((sn ++ [i]).length, none)] ?_ ?_
        · rw [hadd, List.length_append]; rfl
        refine pB [.b false] rfl ?_
        exact S_round (sn ++ [i]) (by show N - (sn ++ [i]).length < N - sn.length; rw [List.length_append]; show N - (sn.length + 1) < _; omega) ⟨hn2, hm2⟩ (.cons rfl (.cons rfl (.nil _))) rfl
    · intro hall
      have hfin := ksD_all (c := c) (sn := sn) (by rw [← hN]; exact hall)
      have hkn := ksD_nodup c sn
      have hkm : ∀ p ∈ ksD c sn, p.length ≤ 1000000000 := by
        intro p hp
        obtain ⟨i, _, f, h1, _, rfl⟩ := (ksD_mem sn).1 hp
        have hf := ksG_mem.1 (List.mem_of_getElem? h1)
        rw [hc] at hf
        rcases List.mem_append.1 hf with hf | hf
        · have := (path_fst (hda.path f hf)).2.1; omega
        · have := (path_fst (hdb.path f hf)).2.1; omega
      have hkl2 : (ksD c sn).length ≤ c.length := by
        have h1 : (ksD c sn).length ≤ ((ksG c).map Fil.path).length := List.Nodup.length_le_of_subset hkn fun p hp => by
          obtain ⟨i, _, f, h1, _, rfl⟩ := (ksD_mem sn).1 hp
          exact List.mem_map_of_mem (List.mem_of_getElem? h1)
        rw [List.length_map] at h1
        omega
      rw [← hfin]
      by_cases hke : ksD c sn = []
      · refine pa [.b false, .f (.func (.func 75) [] [.ptr 3 (sn.length + 1) 0]) (fun σ => [(0, some (.map (mapG filA (ksG c) (cntV c)) (some (List.range N, N)))), (w + 1, mapBx (ksD c sn) (fun _ => .bool true)), (0, some (.miter 0 0 N sn N)), (sn.length + 1, some (.cells [.map 1 (w + 1)] ⟨false, some 66⟩))]), .k (.sl true false 1 ((sortT (ksD c sn)).map AV.str))] rfl ?_ ?_
        · (repeat' with_reducible apply AllP_cons) <;> try exact aC
          · exact KeysB_ok rfl
          · exact SortedB_ok (ks := ksD c sn) (val := fun _ => .bool true) rfl rfl hkn (by omega) hkm
        have hz : sortT (ksD c sn) = [] := by rw [hke]; unfold sortT; rw [List.mergeSort_nil]
        rw [hz]
        exact S_ret ⟨_, _, rfl, trivial, .inr (.inl ⟨rfl, rfl, rfl⟩)⟩
      · refine pa [.b false, .f (.func (.func 75) [] [.ptr 3 (sn.length + 1) 0]) (fun σ => [(0, some (.map (mapG filA (ksG c) (cntV c)) (some (List.range N, N)))), (w + 1, mapBx (ksD c sn) (fun _ => .bool true)), (0, some (.miter 0 0 N sn N)), (sn.length + 1, some (.cells [.map 1 (w + 1)] ⟨false, some 66⟩))]), .f (.ms 4 0 0 (sortT (ksD c sn)).length 1 false) (fun σ => [(0, some (.map (mapG filA (ksG c) (cntV c)) (some (List.range N, N)))), (w + 1, mapBx (ksD c sn) (fun _ => .bool true)), (0, some (.miter 0 0 N sn N)), (sn.length + 1, some (.cells [.map 1 (w + 1)] ⟨false, some 66⟩)), (0, some (.cells ((sortT (ksD c sn)).map AV.str) ⟨false, none⟩))])] rfl ?_ ?_
        · (repeat' with_reducible apply AllP_cons) <;> try exact aC
          · exact KeysB_ok rfl
          · exact SortedB_raw (ks := ksD c sn) (val := fun _ => .bool true) rfl rfl hkn hke (by omega) hkm
        exact S_ret ⟨_, _, rfl, trivial, .inr (.inr ⟨rfl, _, _, rfl, rfl⟩)⟩
end Go.Proofs.YtjkeekbfgnmngaaGreatDoor
end
section
set_option linter.unusedVariables false
set_option linter.unusedSimpArgs false
set_option maxRecDepth 20000
namespace Go.Proofs.YtjkeekbfgnmngaaGreatDoor
open Go Go.Ab
theorem form_zero : ∀ {l : List Fil}, (∀ f ∈ l, isPathB f.path = true) → (∀ f ∈ l, f.text.length ≤ 100000) → formT l = 0
  | [], _, _ => rfl
  | f :: r, h1, h2 => by
    have e : filE f = 0 := by
      unfold filE
      rw [if_pos (h1 f (List.mem_cons_self ..)), if_neg (by have := h2 f (List.mem_cons_self ..); omega)]
    rw [formT, if_pos e, form_zero (fun g hg => h1 g (List.mem_cons_of_mem _ hg)) (fun g hg => h2 g (List.mem_cons_of_mem _ hg))]
theorem DirOk.chk {d : Nat} {l : List Fil} (h : DirOk d l) : chkT l = 0 := by
  unfold chkT
  rw [if_neg (by have := h.len; omega), if_neg (by rw [form_zero h.path h.text]; simp), if_pos h.ok]
theorem und_chk {l : List Fil} {dir : List UInt8} (h : undE l dir = 0) : chkT (undT l dir) = 0 := by
  unfold undE at h
  by_cases hc : chkT l = 0
  · exact (und_dirOk (DirOk.of hc) dir).chk
  · rw [if_neg hc] at h; exact absurd h hc
theorem ov_chk {a b : List Fil} (h : ovE a b = 0) : chkT (ovT (a ++ b)) = 0 := by
  unfold ovE at h
  by_cases ha : chkT a = 0
  · rw [if_pos ha] at h
    by_cases hb : chkT b = 0
    · rw [if_pos hb] at h
      exact (ov_dirOk (DirOk.of ha) (DirOk.of hb) h).chk
    · rw [if_neg hb] at h; exact absurd h hb
  · rw [if_neg ha, if_neg ha] at h; exact absurd h ha
end Go.Proofs.YtjkeekbfgnmngaaGreatDoor
end
section
set_option linter.unusedVariables false
set_option linter.unusedSimpArgs false
namespace Go.Ab
open Go
theorem Calc.over {cx : Cx} {f : FuncId} {args args' : List AV} {res : AV} {σ : Heap} (hp : Calc cx f args' res) (hz : Frzs σ args args') : CallOk cx f args σ (fun o s => o = .ret res ∧ s = σ) := by
  refine ⟨hp.call.1, fun r w vs hi hv => ?_⟩
  have hvs : VRels { S := r.S, I := fun b => r.I b ∨ Live r σ b, ρ := fun _ _ => none } w vs args' := by
    refine ⟨hv.1.trans hz.1, fun i hi' => ?_⟩
    exact (hz.2 i (by rw [hz.1]; exact hi') hi').rel (r' := { S := r.S, I := fun b => r.I b ∨ Live r σ b, ρ := fun _ _ => none }) hi (fun b h => h) (fun b h => Or.inl (hi.SI b h)) (fun _ b h => Or.inl h) (fun b h => ⟨Or.inr h, fun h => by cases h⟩) (hv.2 i (by rw [hz.1]; exact hi'))
  refine (hp.call.2 _ w vs hi.empty hvs).mono fun e w' ⟨out, σ', r1, ⟨ho, hσ'⟩, hor, hi1, hx1⟩ => ?_
  subst ho; subst hσ'
  cases e with
  | returned u =>
    obtain ⟨hi2, hx2⟩ := after_pure hi hi1 hx1
    have hu : VRel r1 w' u res := hor
    exact ⟨_, _, { S := r1.S, I := fun b => r.I b ∨ r1.S b, ρ := r.ρ }, ⟨rfl, rfl⟩, hu.free hp.free (fun b h => h) (fun b h => .inr h) (fun h => by cases h), hi2, hx2⟩
  | panicked chain => exact hor.elim
  | outgrown => exact hor.elim
end Go.Ab
end
section
set_option linter.unusedVariables false
set_option linter.unusedSimpArgs false
namespace Go.Ab
open Go
section
variable {cx : Cx} {n : Nat} {fr : Fr} {σ : Heap}
theorem OpSpec.append0S {o : Oper} {s x : Operand} {t u : TypeId} {e sz by_ : Nat} {st fl : Bool} {xs : List AV} {y : AV} {C : List Prop} (ho : o.op = .call { callee := .builtin .append, args := #[s, x], argTypes := #[t, u] }) (hel : elemInfo cx.P t = some (e, sz, by_)) (hnt : notInt cx.P u = true)
    (hs : ev cx fr s = .sl st fl sz xs) (hx : ev cx fr x = y) (hy : aSrc sz y σ = some (C, 0, [])) (hC : AllP C) : OpSpec cx n fr σ o (.sl st fl sz xs) σ := by
  intro r ac w hi hf
  have h1 := ev_rel hi hf s
  have h2 := ev_rel hi hf x
  rw [hs] at h1
  rw [hx] at h2
  obtain ⟨dst, op, ty, pos, after, guard⟩ := o
  simp only at ho
  subst ho
  obtain ⟨i, z, hu, hinfo, hz, hz1, hz2, hz3⟩ := elemInfo_some hel
  obtain ⟨d, hd, hdk⟩ := notInt_some hnt
  obtain ⟨bs, hbs⟩ := run_len_call cx.P w ac.eval .append #[s, x] #[t, u] dst ty pos after guard
  have key : ∀ (a b : Value), VRel r w a (.sl st fl sz xs) → VRel r w b y → (Builtin.append_ #[t, u] ty #[a, b]).run cx.P w = .ok a w := by
    intro a b ha hb
    obtain ⟨hl1, hl2, news, hl3, hl4⟩ := aSrc_run hi hy hC hb
    have hnews : news = [] := List.eq_nil_of_length_eq_zero (by rw [hl3.1]; rfl)
    subst hnews
    cases a with
    | slice p n' cap =>
      obtain ⟨q1, q2, _, _⟩ := sl_cells ha
      exact run_append_room' (P := cx.P) (w := w) (ty := ty) (base := p) (sLen := n') (sCap := cap) hu hd hdk hinfo hz2 hl1 hl4 (by omega) (w2 := w) (stO_nil _ _ _ _)
    | _ => cases ha
  refine ⟨r, w, ac.eval s, .inl ?_, h1, hi, Ext.refl _ _ _⟩
  rw [hbs]
  simp only [builtin, List.map_toArray, List.map_cons, List.map_nil]
  exact exec_v (key _ _ h1 h2)
theorem OpSpec.appendS {o : Oper} {s x : Operand} {t u : TypeId} {e sz by_ m : Nat} {xs ys zs : List AV} {st : Bool} {y : AV} {C : List Prop} (ho : o.op = .call { callee := .builtin .append, args := #[s, x], argTypes := #[t, u] }) (hel : elemInfo cx.P t = some (e, sz, by_)) (hnt : notInt cx.P u = true)
    (hs : ev cx fr s = .sl st true sz xs) (hx : ev cx fr x = y) (hy : aSrc sz y σ = some (C, m, ys)) (hC : AllP C) (hy1 : ∀ z ∈ ys, z.one = true) (hx1 : ∀ z ∈ flatA sz xs, z.one = true) (hm : m ≠ 0 ∨ xs = []) (hσ : Alive σ)
    (hb1 : (xs.length + m) * by_ ≤ 140737488355328) (hb2 : xs.length + m ≤ 9223372036854775807) (hz : flatA sz xs ++ ys = zs) :
    OpSpec cx n fr σ o (.ms σ.length 0 0 (xs.length + m) sz false) (σ ++ [(0, some (.cells zs ⟨false, tyU8 cx.P e⟩))]) := by
  subst hz
  refine OpSpec.aop (C := C ++ [∀ y ∈ ys, y.one = true, sz = sz, ∀ y ∈ flatA sz xs, y.one = true, m ≠ 0 ∨ xs = [], (xs.length + m) * by_ ≤ 140737488355328, xs.length + m ≤ 9223372036854775807]) ?_ (AllP_app hC ⟨hy1, rfl, hx1, hm, hb1, hb2, trivial⟩)
  rw [ho]
  show aAppend cx.P t u (ev cx fr s) (ev cx fr x) σ = _
  rw [hs, hx]
  unfold aAppend
  rw [hel]
  simp only [hnt, cond_true, hy, hσ.alloc]
end
end Go.Ab
end
section
set_option linter.unusedVariables false
set_option linter.unusedSimpArgs false
set_option maxRecDepth 20000
set_option maxHeartbeats 2000000
namespace Go.Proofs.YtjkeekbfgnmngaaGreatDoor
open Go Go.Ab
def FK (k : Nat) (u : Heap) (v : AV) (sz : Nat) (cs : List AV) : Prop :=
  (v = .sl true false sz [] ∧ cs = []) ∨ ∃ n, n ≤ 1000000000 ∧ v = .ms k 0 0 n sz false ∧ cs.length = n * sz ∧ u[k]? = some (0, some (.cells cs ⟨false, none⟩))
theorem FK.keep {k : Nat} {u u' : Heap} {v : AV} {sz : Nat} {cs : List AV} (h : FK k u v sz cs) (hk : u'[k]? = u[k]?) : FK k u' v sz cs := by
  rcases h with h | ⟨n, h0, h1, h2, h3⟩
  · exact .inl h
  · exact .inr ⟨n, h0, h1, h2, by rw [hk]; exact h3⟩
def Up (σ u : Heap) : Prop := ∃ τ : Heap, u = σ ++ τ ∧ Alive τ
theorem celsF_nil {x : List Fil} (h : celsF x = []) : x = [] := by
  have := cels_len x
  rw [h] at this
  cases x with
  | nil => rfl
  | cons f r => simp at this
theorem RawF.L {f : FuncId} {args args' : List AV} {σ : Heap} {x : List Fil} {e : Nat} (h : CallOk cx f args' [] (RawF x e)) (hx : e = 0 → x.length ≤ 1000000000) (hz : Frzs σ args args') :
    CallOk cx f args σ (fun o u => ∃ v, o = .ret (.tup [v, .int .i64 (e : Nat)]) ∧ Up σ u ∧ FK σ.length u v 3 (celsF (if e = 0 then x else []))) := by
  by_cases hq : e = 0 ∧ x ≠ []
  · obtain ⟨he, hx0⟩ := hq
    have h2 := CallOk.lift (cs := celsF x) (n := x.length) (sz := 3) (e := .int .i64 0) (g := ⟨false, none⟩) (fun h => hx0 (celsF_nil h)) (h.mono fun o s hr => by
      rcases hr with ⟨h0, _⟩ | ⟨_, id, ver, ho, hb⟩
      · exact absurd he h0
      · exact ⟨id, ver, ho, hb⟩) hz (cels_free x) .int
    refine h2.mono fun o u ⟨ho, hu⟩ => ⟨.ms σ.length 0 0 x.length 3 false, by subst he; exact ho, ⟨_, hu, fun e he => ?_⟩, .inr ⟨x.length, hx he, rfl, by rw [if_pos he]; exact cels_len x, by rw [hu, if_pos he]; exact app_last⟩⟩
    rw [List.mem_singleton.1 he]; exact ⟨_, rfl⟩
  · have hx0 : (if e = 0 then x else []) = [] := by
      by_cases he : e = 0
      · rw [if_pos he]; exact Classical.byContradiction fun h => hq ⟨he, h⟩
      · rw [if_neg he]
    have hc := flatS (RawF.calc h)
    unfold flatSV at hc
    rw [hx0] at hc
    refine (hc.over hz).mono fun o u ⟨ho, hu⟩ => ⟨_, ho, ⟨[], by rw [hu, List.append_nil], fun e he => by cases he⟩, .inl ⟨rfl, by rw [hx0]; rfl⟩⟩
theorem RawD.L {f : FuncId} {args args' : List AV} {σ : Heap} {x : List (List UInt8)} {e : Nat} (h : CallOk cx f args' [] (RawD x e)) (hx : e = 0 → x.length ≤ 1000000000) (hz : Frzs σ args args') :
    CallOk cx f args σ (fun o u => ∃ v, o = .ret (.tup [v, .int .i64 (e : Nat)]) ∧ Up σ u ∧ FK σ.length u v 1 (texts (if e = 0 then x else []))) := by
  by_cases hq : e = 0 ∧ x ≠ []
  · obtain ⟨he, hx0⟩ := hq
    by_cases hh : ∃ y, y = x.map AV.str
    case neg => exact absurd ⟨_, rfl⟩ hh
    have h2 := CallOk.lift (cs := texts x) (n := x.length) (sz := 1) (e := .int .i64 0) (g := ⟨false, none⟩) (fun h => hx0 (by simpa [texts] using h)) (h.mono fun o s hr => by
      rcases hr with ⟨h0, _⟩ | ⟨_, h0, _⟩ | ⟨_, id, ver, ho, hb⟩
      · exact absurd he h0
      · exact absurd h0 hx0
      · exact ⟨id, ver, ho, hb⟩) hz (texts_any x) .int
    refine h2.mono fun o u ⟨ho, hu⟩ => ⟨.ms σ.length 0 0 x.length 1 false, by subst he; exact ho, ⟨_, hu, fun e he => ?_⟩, .inr ⟨x.length, hx he, rfl, by rw [if_pos he, texts_len]; omega, by rw [hu, if_pos he]; exact app_last⟩⟩
    rw [List.mem_singleton.1 he]; exact ⟨_, rfl⟩
  · have hx0 : (if e = 0 then x else []) = [] := by
      by_cases he : e = 0
      · rw [if_pos he]; exact Classical.byContradiction fun h => hq ⟨he, h⟩
      · rw [if_neg he]
    have hc : Calc cx f args' (.tup [.sl true false 1 [], .int .i64 (e : Nat)]) := calc_of (.tup (by intro x hx; simp at hx; rcases hx with rfl | rfl; exact .sl (fun _ => rfl) (by intro x hx; cases hx); exact .int)) (h.mono fun o s hr => by
      rcases hr with ⟨h0, rfl⟩ | ⟨h0, _, rfl⟩ | ⟨h0, id, ver, ho, hb⟩
      · exact ⟨_, rfl, Fzs.tup (.cons .nils (.cons (.refl .int) .nil))⟩
      · subst h0; exact ⟨_, rfl, .refl (.tup (by intro x hx; simp at hx; rcases hx with rfl | rfl; exact .sl (fun _ => rfl) (by intro x hx; cases hx); exact .int))⟩
      · rw [if_pos h0] at hx0
        subst h0; subst hx0
        exact ⟨_, ho, Fzs.tup (.cons (.ms (cs := []) (by unfold boxAt; rw [hb]; rfl) (Nat.le_refl _) rfl (by intro x hx; cases hx) rfl (by intro x hx; cases hx)) (.cons (.refl .int) .nil))⟩)
    refine (hc.over hz).mono fun o u ⟨ho, hu⟩ => ⟨_, ho, ⟨[], by rw [hu, List.append_nil], fun e he => by cases he⟩, .inl ⟨rfl, by rw [hx0]; rfl⟩⟩
theorem FK.frzF {k : Nat} {u : Heap} {v : AV} {x : List Fil} (h : FK k u v 3 (celsF x)) : Frz false u v (.sl false false 3 (fils x)) := by
  have hcl := cels_len x
  rcases h with ⟨rfl, h⟩ | ⟨n, _, rfl, h1, h2⟩
  · rw [celsF_nil h]; exact .lend rfl (fun h => by cases h) (by intro x hx; cases hx)
  · obtain rfl : n = x.length := by omega
    exact .ms (cs := celsF x) (by unfold boxAt; rw [h2]) (by omega) (by rw [List.drop_zero]; exact List.take_of_length_le (by omega)) (fil_size _) (fils_len _) (fils_free _)
theorem flatTx (l : List (List UInt8)) : texts l = (texts l).flatMap AV.cells := by
  unfold texts
  induction l with
  | nil => rfl
  | cons x l ih => show AV.str x :: l.map AV.str = _; rw [ih]; rfl
theorem FK.frzT {k : Nat} {u : Heap} {v : AV} {x : List (List UInt8)} (h : FK k u v 1 (texts x)) : Frz false u v (.sl false false 1 (texts x)) := by
  have hcl := texts_len x
  rcases h with ⟨rfl, h⟩ | ⟨n, _, rfl, h1, h2⟩
  · rw [h]; exact .lend rfl (fun h => by cases h) (by intro x hx; cases hx)
  · obtain rfl : n = x.length := by omega
    exact .ms (cs := texts x) (by unfold boxAt; rw [h2]) (by omega) (by rw [List.drop_zero, ← flatTx]; exact List.take_of_length_le (by omega)) (fun y hy => by obtain ⟨z, _, rfl⟩ := List.mem_map.1 hy; rfl) (texts_len _) (texts_any _)
structure But (v : AV) (u s : Heap) : Prop where
  len : s.length = u.length
  same : ∀ i, (∀ ver n sz, v ≠ .ms i ver 0 n sz false) → s[i]? = u[i]?
  al : Alive u → Alive s
theorem spoilF_L {k : Nat} {u : Heap} {v : AV} {cs : List AV} (h : FK k u v 3 cs) : CallOk cx 12 [v] u (fun o s => o = .ret (.tup []) ∧ But v u s) := by
  rcases h with ⟨rfl, h⟩ | ⟨n, hn, rfl, h1, h2⟩
  · have h0 : Calc cx 12 [.sl true false 3 []] (.tup []) :=
      pure_intro (fun a w => Tryz.call12 a w) Tryz.func12 rfl Tryz.ntmps12 rfl (.tup (by intro x hx; cases hx)) fun B => by
        refine pao [] rfl ?_ ?_
        · (repeat' with_reducible apply AllP_cons) <;> try exact aC
        refine S_while (α := Nat) (fun m => [(0, .sl true false 3 []), (2, .int .i64 0)]) (fun m => []) (fun m => True) (fun m => 0) 0
          trivial (.cons rfl (.cons rfl (.nil _))) rfl ?_
        intro m hm
        refine pao [.b false] rfl ?_ ?_
        · (repeat' with_reducible apply AllP_cons) <;> try exact aC
        exact S_nil ⟨_, _, rfl, trivial, _, rfl, .refl (.tup (by intro x hx; cases hx))⟩
    exact (h0.over (.cons (.refl (.sl (fun h => by cases h) (by intro x hx; cases hx))) (.nil _))).mono fun o s ⟨ho, hs⟩ => ⟨ho, by rw [hs], fun i _ => by rw [hs], fun h => by rw [hs]; exact h⟩
  · exact (spoilFiles_ok u k 0 n cs none h2 h1 hn).mono fun o s ⟨ho, hs⟩ => ⟨ho, by rw [hs, List.length_set], fun i hi => by rw [hs]; exact set_ne fun h => hi 0 n _ (by rw [h]), fun h => by rw [hs]; exact Alive.set h _ _ _⟩
theorem spoilT_L {k : Nat} {u : Heap} {v : AV} {cs : List AV} (h : FK k u v 1 cs) : CallOk cx 13 [v] u (fun o s => o = .ret (.tup []) ∧ But v u s) := by
  rcases h with ⟨rfl, h⟩ | ⟨n, hn, rfl, h1, h2⟩
  · have h0 : Calc cx 13 [.sl true false 1 []] (.tup []) :=
      pure_intro (fun a w => Tryz.call13 a w) Tryz.func13 rfl Tryz.ntmps13 rfl (.tup (by intro x hx; cases hx)) fun B => by
        refine pao [] rfl ?_ ?_
        · (repeat' with_reducible apply AllP_cons) <;> try exact aC
        refine S_while (α := Nat) (fun m => [(0, .sl true false 1 []), (2, .int .i64 0)]) (fun m => []) (fun m => True) (fun m => 0) 0
          trivial (.cons rfl (.cons rfl (.nil _))) rfl ?_
        intro m hm
        refine pao [.b false] rfl ?_ ?_
        · (repeat' with_reducible apply AllP_cons) <;> try exact aC
        exact S_nil ⟨_, _, rfl, trivial, _, rfl, .refl (.tup (by intro x hx; cases hx))⟩
    exact (h0.over (.cons (.refl (.sl (fun h => by cases h) (by intro x hx; cases hx))) (.nil _))).mono fun o s ⟨ho, hs⟩ => ⟨ho, by rw [hs], fun i _ => by rw [hs], fun h => by rw [hs]; exact h⟩
  · exact (spoilTexts_ok u k 0 n cs none h2 (by omega) hn).mono fun o s ⟨ho, hs⟩ => ⟨ho, by rw [hs, List.length_set], fun i hi => by rw [hs]; exact set_ne fun h => hi 0 n _ (by rw [h]), fun h => by rw [hs]; exact Alive.set h _ _ _⟩
theorem FK.lt {k : Nat} {u : Heap} {v : AV} {sz i : Nat} {cs : List AV} (h : FK k u v sz cs) {ver n m : Nat} (hv : v = .ms i ver 0 n m false) : i = k ∧ k < u.length := by
  rcases h with ⟨rfl, _⟩ | ⟨n', _, rfl, _, h2⟩
  · cases hv
  · cases hv; exact ⟨rfl, lt_of_get h2⟩
theorem FK.but {k k' : Nat} {u0 u s : Heap} {v w : AV} {sz sz' : Nat} {cs cs' : List AV} (h : FK k u v sz cs) (hb : But w u s) (hw : FK k' u0 w sz' cs') (hk : k' < u0.length → k ≠ k') : FK k s v sz cs :=
  h.keep (hb.same k fun ver n m e => by have := hw.lt e; exact hk this.2 this.1)
end Go.Proofs.YtjkeekbfgnmngaaGreatDoor
end
section
set_option linter.unusedVariables false
set_option linter.unusedSimpArgs false
namespace Go.Ab
open Go
section
variable {cx : Cx} {n : Nat} {B : Bs} {k : List AI} {Q : Post} {fr : Fr} {σ : Heap}
inductive Wv : AV → AV → Prop
  | refl {a} : Wv a a
  | nils {st fl sz} : Wv .nils (.sl st fl sz [])
  | sl {st fl st' fl' sz xs} (h1 : st' = true → st = true) (h2 : fl' = true → fl = true) : Wv (.sl st fl sz xs) (.sl st' fl' sz xs)
theorem Wv.rel {r : Rl} {w : World} {v : Value} {a a' : AV} (h : Wv a a') (hv : VRel r w v a) : VRel r w v a' := by
  cases h with
  | refl => exact hv
  | nils => cases hv; exact .sl0 (fun _ => rfl)
  | sl h1 h2 =>
    cases hv with
    | sl0 hf => exact .sl0 (fun h => hf (h2 h))
    | sl hn hc0 hf hI hS hsz f hc hv => exact .sl hn hc0 (fun h => hf (h2 h)) hI (fun h => hS (h1 h)) hsz f hc hv
theorem Wv.one {a a' : AV} (h : Wv a a') (ho : a.one = true) : a'.one = true := by
  cases h with
  | refl => exact ho
  | nils => rfl
  | sl _ _ => rfl
inductive Wvs : List AV → List AV → Prop
  | nil : Wvs [] []
  | cons {a b az bs} (h : Wv a b) (hs : Wvs az bs) : Wvs (a :: az) (b :: bs)
theorem Wvs.len {az bs : List AV} (h : Wvs az bs) : az.length = bs.length := by
  induction h with
  | nil => rfl
  | cons _ _ ih => simp [ih]
theorem Wvs.get {az bs : List AV} (h : Wvs az bs) : ∀ (i : Nat) (h1 : i < az.length) (h2 : i < bs.length), Wv az[i] bs[i] := by
  induction h with
  | nil => intro i h1; simp at h1
  | cons h hs ih =>
    intro i h1 h2
    cases i with
    | zero => exact h
    | succ i => exact ih i (by simpa using h1) (by simpa using h2)
end
end Go.Ab
end
section
set_option linter.unusedVariables false
set_option linter.unusedSimpArgs false
set_option maxRecDepth 20000
set_option maxHeartbeats 4000000
namespace Go.Proofs.YtjkeekbfgnmngaaGreatDoor
open Go Go.Ab
theorem cmpFilD : cmpOk cx.P 25 = true := by kernel_rfl
end Go.Proofs.YtjkeekbfgnmngaaGreatDoor
end
section
set_option linter.unusedVariables false
set_option linter.unusedSimpArgs false
set_option maxRecDepth 20000
set_option maxHeartbeats 8000000
namespace Go.Proofs.YtjkeekbfgnmngaaGreatDoor
open Go Go.Ab
def roomF : Fil := ⟨[114, 111, 111, 109], [115, 112, 97, 114, 101], false⟩
def roomC : List AV := [.str [114, 111, 111, 109], .str [115, 112, 97, 114, 101], .bool false]
def YAt (b : List Fil) (σ : Heap) (yv : AV) : Prop := (b = [] ∧ yv = .sl true true 3 []) ∨ (yv = .ms 1 0 0 b.length 3 false ∧ 1 < σ.length ∧ σ[1]? = some (0, some (.cells (celsF b) ⟨false, none⟩)))
structure RAtF (a b : List Fil) (σ : Heap) (ver : Nat) (yv : AV) : Prop where
  al : Alive σ
  xl : 0 < σ.length
  xb : σ[0]? = some (ver, some (.cells (celsF a ++ roomC) ⟨false, none⟩))
  yb : YAt b σ yv
theorem RAtF.mono {a b : List Fil} {σ σ' : Heap} {ver : Nat} {yv : AV} (h : RAtF a b σ ver yv) (hl : σ.length ≤ σ'.length) (ha : Alive σ') (hs : ∀ i, i < σ.length → σ'[i]? = σ[i]?) : RAtF a b σ' ver yv := by
  refine ⟨ha, Nat.lt_of_lt_of_le h.xl hl, by rw [hs 0 h.xl]; exact h.xb, ?_⟩
  rcases h.yb with h1 | ⟨h1, h2, h3⟩
  · exact .inl h1
  · exact .inr ⟨h1, by omega, by rw [hs 1 h2]; exact h3⟩
theorem RAtF.up {a b : List Fil} {σ u : Heap} {ver : Nat} {yv : AV} (h : RAtF a b σ ver yv) (hu : Up σ u) : RAtF a b u ver yv := by
  obtain ⟨τ, rfl, ht⟩ := hu
  exact h.mono (by simp) (alive_apps h.al ht) fun i hi => List.getElem?_append_left hi
theorem RAtF.frx {a b : List Fil} {σ : Heap} {ver : Nat} {yv : AV} (h : RAtF a b σ ver yv) {n : Nat} (hn : n = a.length) : Frz false σ (.ms 0 ver 0 n 3 false) (.sl false false 3 (fils a)) := by
  subst hn
  have hcl := cels_len a
  exact .ms (cs := celsF a ++ roomC) (by unfold boxAt; rw [h.xb]) (by rw [List.length_append]; omega) (by rw [List.drop_zero, ← hcl]; exact List.take_left) (fil_size _) (fils_len _) (fils_free _)
theorem RAtF.fry {a b : List Fil} {σ : Heap} {ver : Nat} {yv : AV} (h : RAtF a b σ ver yv) : Frz false σ yv (.sl false false 3 (fils b)) := by
  have hcl := cels_len b
  rcases h.yb with ⟨rfl, rfl⟩ | ⟨rfl, h2, h3⟩
  · exact .lend rfl (fun h => by cases h) (by intro x hx; cases hx)
  · exact .ms (cs := celsF b) (by unfold boxAt; rw [h3]) (by omega) (by rw [List.drop_zero]; exact List.take_of_length_le (by omega)) (fil_size _) (fils_len _) (fils_free _)
theorem dif_rise {c : List Fil} : riseB (difT c) = true := by
  rw [← ksD_all (sn := List.range (ksG c).length) (fun b h => h)]
  exact rise_sort (ksD_nodup c _)
theorem difT_len (c : List Fil) : (difT c).length ≤ c.length := by
  unfold difT
  refine Nat.le_trans (setT_len _) ?_
  rw [List.length_map]
  exact List.length_filter_le _ _
theorem ov_ok {a b : List Fil} (h : ovE a b = 0) : DirOk 101 (ovT (a ++ b)) := DirOk.of (ov_chk h)
theorem und_ok {l : List Fil} {dir : List UInt8} (h : undE l dir = 0) : DirOk 101 (undT l dir) := DirOk.of (und_chk h)
theorem dif_len {a b : List Fil} (h : difE a b = 0) : (difT (a ++ b)).length ≤ 120 := by
  unfold difE at h
  by_cases ha : chkT a = 0
  · rw [if_pos ha] at h
    have h1 := (DirOk.of ha).len
    have h2 := (DirOk.of h).len
    have := difT_len (a ++ b)
    rw [List.length_append] at this
    omega
  · rw [if_neg ha] at h; exact absurd h ha
theorem app_lit {n : Nat} {fr : Fr} {σ : Heap} {o : Oper} {s x : Operand} {t u : TypeId} {st st' fl' : Bool} {l : List Fil} (ho : o.op = .call { callee := .builtin .append, args := #[s, x], argTypes := #[t, u] }) (hel : elemInfo cx.P t = some (25, 3, 40)) (hnt : notInt cx.P u = true)
    (hs : ev cx fr s = .sl st true 3 []) (hx : ev cx fr x = .sl st' fl' 3 (fils l)) (hσ : Alive σ) (hl : l.length ≤ 1000000000) : OpSpec cx n fr σ o (.ms σ.length 0 0 l.length 3 false) (σ ++ [(0, some (.cells (celsF l) ⟨false, none⟩))]) := by
  have h := OpSpec.appendS (n := n) (σ := σ) (xs := []) (ys := celsF l) (zs := celsF l) (m := (fils l).length) (y := .sl st' fl' 3 (fils l)) (sz := 3) (by_ := 40) ho hel hnt hs hx rfl ⟨rfl, cels_one l, trivial⟩ (cels_one l) (by intro z hz; cases hz) (.inr rfl) hσ
    (by rw [fils_len]; show (0 + l.length) * 40 ≤ _; omega) (by rw [fils_len]; show 0 + l.length ≤ _; omega) rfl
  rw [fils_len, show ([] : List AV).length + l.length = l.length from Nat.zero_add _] at h
  exact h
theorem RestFiles_ok (a b : List Fil) (dir : List UInt8) (ha : avB (.sl true false 3 (fils a)) ≤ 1048576) (hb : avB (.sl true false 3 (fils b)) ≤ 1048576) (hd : dir.length ≤ 1048576) :
    Calc cx 3 [.sl true false 3 (fils a), .sl true false 3 (fils b), .str dir] (.bool true) :=
  pure_intro (fun a w => Tryz.call3 a w) Tryz.func3 rfl Tryz.ntmps3 rfl .bool fun B => by
    have hal0 : Alive ([] : Heap) := fun e he => by cases he
    have hla := fils_of ha
    have hlb := fils_of hb
    have hal := fils_len a
    have hbl := fils_len b
    have hca := cels_len a
    have hcb := cels_len b
    have hna := hla.len
    have hnb := hlb.len
    refine' S_shareO (ι := Nat × Heap) (fun x => [(0, .sl true false 3 (fils a)), (1, .sl true false 3 (fils b)), (2, .str dir), (24, .ms 0 x.1 0 (a.length + 1) 3 false)]) (fun x => x.2) (fun x => Alive x.2 ∧ x.2.length = 1 ∧ x.2[0]? = some (x.1, some (.cells (celsF a ++ roomC) ⟨false, none⟩))) ?main0 ?rest0
    case main0 =>
      intro hsh
      have hal1 : ∀ (v : Nat) (x : Box), Alive [(v, some x)] := fun v x e he => by rw [List.mem_singleton.1 he]; exact ⟨x, rfl⟩
      by_cases hna : a = []
      case neg =>
        refine pao [.v (.bool true), .b false, .f (.ms 0 0 0 a.length 3 false) (fun s => [(0, some (.cells (celsF a) ⟨false, none⟩))]), .f (.ms 0 1 0 (a.length + 1) 3 false) (fun s => [(1, some (.cells (celsF a ++ roomC) ⟨false, none⟩))]), .s] rfl ?_ ?_
        · (repeat' with_reducible apply AllP_cons) <;> try exact aC
          · exact ⟨[], treeBegun_ok, .nil _⟩
          · exact app_lit (σ := []) rfl rfl rfl rfl rfl hal0 (by omega)
          · exact OpSpec.appendX (id := 0) (ver := 0) (off := 0) (len := a.length) (y := .agg roomC) (cs := celsF a) (by_ := 40) rfl rfl rfl rfl rfl (allOne_mem rfl) rfl (by omega) (by omega) (by omega) rfl
        exact hsh (_, _) _ ⟨hal1 _ _, rfl, rfl⟩ (.cons rfl (.cons rfl (.cons rfl (.cons rfl (.nil _)))))
      case pos =>
        subst hna
        refine pao [.v (.bool true), .b false, .f (.sl true true 3 []) (fun s => s), .f (.ms 0 0 0 1 3 false) (fun s => [(0, some (.cells roomC ⟨false, none⟩))]), .s] rfl ?_ ?_
        · (repeat' with_reducible apply AllP_cons) <;> try exact aC
          · exact ⟨[], treeBegun_ok, .nil _⟩
          · exact OpSpec.append0S rfl rfl rfl rfl rfl rfl ⟨rfl, fun y hy => absurd hy (by show ¬ y ∈ ([] : List AV); simp), trivial⟩
          · exact app_lit (σ := []) (l := [roomF]) rfl rfl rfl rfl rfl hal0 (by decide)
        exact hsh (_, _) _ ⟨hal1 _ _, rfl, rfl⟩ (.cons rfl (.cons rfl (.cons rfl (.cons rfl (.nil _)))))
    case rest0 =>
      rintro ⟨ver, σ1⟩ ⟨h1a, h1l, h1b⟩
      have h1a : Alive σ1 := h1a
      have h1l : σ1.length = 1 := h1l
      have h1b : σ1[0]? = some (ver, some (.cells (celsF a ++ roomC) ⟨false, none⟩)) := h1b
      have hga : (0 : Int) ≤ ((fils a).length : Nat) := by omega
      have mv : ∀ {σ : Heap} {fr : Fr} {o : Oper} {v : AV}, aOp cx [] o.dst o.op fr σ = some ([], v, σ) → OpSpec cx 104 fr σ o v σ := fun h => OpSpec.aop h trivial
      refine' S_shareO (ι := Heap × AV) (fun x => [(0, .sl true false 3 (fils a)), (1, .sl true false 3 (fils b)), (2, .str dir), (7, .ms 0 ver 0 (a.length + 1) 3 false), (8, .ms 0 ver 0 a.length 3 false), (31, x.2)]) (fun x => x.1) (fun x => RAtF a b x.1 ver x.2) ?main1 ?rest1
      case main1 =>
        intro hsh
        have hx8 : ∀ fl : Bool, AV.ms 0 ver (0 + 0 * 3) ((((fils a).length : Nat) : Int).toNat - 0) 3 fl = .ms 0 ver 0 a.length 3 fl := fun fl => by rw [Int.toNat_natCast, hal]; rfl
        have hle : (((fils a).length : Nat) : Int) ≤ ((a.length + 1 : Nat) : Int) := by omega
        by_cases hnb : b = []
        case neg =>
          refine pao [.f (.ms σ1.length 0 0 b.length 3 false) (fun s => s ++ [(0, some (.cells (celsF b) ⟨false, none⟩))]), .s] rfl ?_ ?_
          · (repeat' with_reducible apply AllP_cons) <;> try exact aC
            exact app_lit rfl rfl rfl rfl rfl h1a (by omega)
          refine hsh (_, _) _ ⟨alive_apps h1a (fun e he => by rw [List.mem_singleton.1 he]; exact ⟨_, rfl⟩), by rw [List.length_append]; omega, by rw [List.getElem?_append_left (by omega)]; exact h1b, .inr ⟨by rw [h1l], by rw [List.length_append, h1l]; exact Nat.lt_succ_self 1, ?_⟩⟩ (.cons rfl (.cons rfl (.cons rfl (.cons rfl (.cons (hx8 _) (.cons rfl (.nil _)))))))
          have := app_last (σ := σ1) (x := (0, some (.cells (celsF b) ⟨false, none⟩)))
          rw [h1l] at this
          exact this
        case pos =>
          subst hnb
          refine pao [.f (.sl true true 3 []) (fun s => s), .s] rfl ?_ ?_
          · (repeat' with_reducible apply AllP_cons) <;> try exact aC
            exact OpSpec.append0S rfl rfl rfl rfl rfl rfl ⟨rfl, fun y hy => absurd hy (by show ¬ y ∈ ([] : List AV); simp), trivial⟩
          refine hsh (_, _) _ ⟨h1a, by show 0 < σ1.length; omega, h1b, .inl ⟨rfl, rfl⟩⟩ (.cons rfl (.cons rfl (.cons rfl (.cons rfl (.cons (hx8 _) (.cons rfl (.nil _)))))))
      case rest1 =>
        rintro ⟨σ2, yv⟩ h2
        have h2 : RAtF a b σ2 ver yv := h2
        refine pao [.o yv (fun s => s)] rfl ?_ ?_
        · (repeat' with_reducible apply AllP_cons) <;> try exact aC
          exact mv rfl
        refine S_while (α := Nat × Heap) (fun x => [(0, .sl true false 3 (fils a)), (1, .sl true false 3 (fils b)), (2, .str dir), (7, .ms 0 ver 0 (a.length + 1) 3 false), (8, .ms 0 ver 0 a.length 3 false), (9, yv), (10, .int .i64 (x.1 : Nat))]) (fun x => x.2) (fun x => x.1 ≤ 2 ∧ RAtF a b x.2 ver yv) (fun x => 2 - x.1) (0, σ2)
          ⟨Nat.zero_le _, h2⟩ (.cons rfl (.cons rfl (.cons rfl (.cons rfl (.cons rfl (.cons rfl (.cons rfl (.nil _)))))))) rfl ?_
        rintro ⟨i, σ⟩ ⟨hi, h3⟩
        simp only at hi h3
        by_cases hlt : i < 2
        case neg =>
          have d1 : decide ((i : Int) < 2) = false := decide_eq_false (by omega)
          refine pao [.b false] rfl ?_ ?_
          · (repeat' with_reducible apply AllP_cons) <;> try exact aC
          exact S_retc .bool rfl trivial rfl
        case pos =>
        have d1 : decide ((i : Int) < 2) = true := decide_eq_true (by omega)
        have hi1 : AV.int .i64 (IntKind.i64.wrap ((i : Int) + 1)) = .int .i64 ((i + 1 : Nat) : Int) := ai64 rfl (by omega)
        have hO := RawF.L (Over_raw (st := false) (fl := false) (st' := false) (fl' := false) a b hla hlb) (fun h => by have := (ov_ok h).len; omega) (.cons (h3.frx rfl) (.cons h3.fry (.nil σ)))
        refine pao [.b true, .o (.ms 0 ver 0 a.length 3 false) (fun s => s), .o yv (fun s => s)] rfl ?_ ?_
        · (repeat' with_reducible apply AllP_cons) <;> try exact aC
          all_goals exact mv rfl
        refine S_call rfl rfl rfl hO (fun v u hR => ?_) (fun v s hR => by obtain ⟨_, hR, _⟩ := hR; cases hR)
        obtain ⟨pv, hR, hu, hp⟩ := hR
        cases hR
        have h4 := h3.up hu
        have lu : σ.length ≤ u.length := by obtain ⟨τ, rfl, _⟩ := hu; simp
        have hU := RawF.L (Under_raw (st := false) (fl := false) a dir hla (by omega)) (fun h => by have := (und_ok h).len; omega) (.cons (h4.frx rfl) (.cons (.refl .str) (.nil u)))
        refine pao [.o (.tup [pv, .int .i64 (ovE a b : Nat)]) (fun s => s), .o pv (fun s => s), .o (.int .i64 (ovE a b : Nat)) (fun s => s), .o pv (fun s => s)] rfl ?_ ?_
        · (repeat' with_reducible apply AllP_cons) <;> try exact aC
          all_goals exact mv rfl
        refine S_call rfl rfl rfl hU (fun v u2 hR => ?_) (fun v s hR => by obtain ⟨_, hR, _⟩ := hR; cases hR)
        obtain ⟨qv, hR, hu2, hq⟩ := hR
        cases hR
        have h5 := h4.up hu2
        have lu2 : u.length ≤ u2.length := by obtain ⟨τ, rfl, _⟩ := hu2; simp
        have hD := RawD.L (Differs_raw (st := false) (fl := false) (st' := false) (fl' := false) a b hla hlb) (fun h => by have := dif_len h; omega) (.cons (h5.frx rfl) (.cons h5.fry (.nil u2)))
        refine pao [.o (.tup [qv, .int .i64 (undE a dir : Nat)]) (fun s => s), .o qv (fun s => s), .o (.int .i64 (undE a dir : Nat)) (fun s => s), .o qv (fun s => s), .o (.int .i64 (undE a dir : Nat)) (fun s => s), .o (.ms 0 ver 0 a.length 3 false) (fun s => s), .o yv (fun s => s)] rfl ?_ ?_
        · (repeat' with_reducible apply AllP_cons) <;> try exact aC
          all_goals exact mv rfl
        refine S_call rfl rfl rfl hD (fun v u3 hR => ?_) (fun v s hR => by obtain ⟨_, hR, _⟩ := hR; cases hR)
        obtain ⟨dv, hR, hu3, hdv⟩ := hR
        cases hR
        have h6 := h5.up hu3
        have lu3 : u2.length ≤ u3.length := by obtain ⟨τ, rfl, _⟩ := hu3; simp
        have hS1 := SameFiles_ok (st := false) (st' := true) (fl := false) (fl' := false) a a (by omega) (by omega)
        have hS2 := SameFiles_ok (st := false) (st' := true) (fl := false) (fl' := false) b b (by omega) (by omega)
        rw [decide_eq_true rfl] at hS1 hS2
        have hroom : (.agg roomC : AV) = .agg (((celsF a ++ roomC).drop (offN 0 (mulN (((fils a).length : Nat) : Int).toNat 3))).take 3) := by
          rw [cels_off, hal, ← hca, List.drop_left]; rfl
        have hoff : 3 ≤ ((celsF a ++ roomC).drop (offN 0 (mulN (((fils a).length : Nat) : Int).toNat 3))).length := by
          rw [cels_off, List.length_drop, List.length_append, hal]; show 3 ≤ (celsF a).length + 3 - a.length * 3; omega
        have eq0 : ∀ n : Nat, n ≠ 0 → ((n : Int) == 0) = false := fun n h => beq_false_of_ne (by omega)
        have eq1 : ∀ n : Nat, n = 0 → ((n : Int) == 0) = true := fun n h => by rw [h]; rfl
        refine pao [.o (.tup [dv, .int .i64 (difE a b : Nat)]) (fun s => s), .o dv (fun s => s), .o (.int .i64 (difE a b : Nat)) (fun s => s), .o dv (fun s => s), .o (.int .i64 (difE a b : Nat)) (fun s => s), .v (.bool true), .b false, .o yv (fun s => s), .v (.bool true), .b false, .v .top, .v (.agg roomC), .b false, .s] rfl ?_ ?_
        · (repeat' with_reducible apply AllP_cons) <;> try exact aC
          all_goals first | exact mv rfl | exact ⟨_, hS1, .cons (h6.frx rfl) (.cons (.refl (.sl (fun h => by cases h) (fils_free a))) (.nil _))⟩ | exact ⟨_, hS2, .cons h6.fry (.cons (.refl (.sl (fun h => by cases h) (fils_free b))) (.nil _))⟩ | exact OpSpec.loadEA (off := offN 0 (mulN (((fils a).length : Nat) : Int).toNat 3)) (cs := celsF a ++ roomC) rfl rfl rfl rfl h6.xb hoff hroom | exact cmpFilD | (show (((fils a).length : Nat) : Int) < ((a.length + 1 : Nat) : Int); omega) | rfl | exact OpSpec.loadEA (off := offN 0 (mulN (((fils a).length : Nat) : Int).toNat 3)) (cs := celsF a ++ roomC) rfl rfl rfl rfl h6.xb hoff hroom
        refine S_weakO [(0, .sl true false 3 (fils a)), (1, .sl true false 3 (fils b)), (2, .str dir), (7, .ms 0 ver 0 (a.length + 1) 3 false), (8, .ms 0 ver 0 a.length 3 false), (9, yv), (10, .int .i64 (i : Nat)), (11, pv), (12, .int .i64 (ovE a b : Nat)), (13, qv), (14, .int .i64 (undE a dir : Nat)), (15, dv), (16, .int .i64 (difE a b : Nat))] (.cons rfl (.cons rfl (.cons rfl (.cons rfl (.cons rfl (.cons rfl (.cons rfl (.cons rfl (.cons rfl (.cons rfl (.cons rfl (.cons rfl (.cons rfl (.nil _)))))))))))))) ?_
        have hp3 : FK σ.length u3 pv 3 (celsF (if ovE a b = 0 then ovT (a ++ b) else [])) := by
          obtain ⟨τ2, rfl, _⟩ := hu2
          obtain ⟨τ3, rfl, _⟩ := hu3
          rcases hp with h | ⟨n, h0, h1, h2, h3⟩
          · exact .inl h
          · exact .inr ⟨n, h0, h1, h2, apps_get (apps_get h3)⟩
        have hq3 : FK u.length u3 qv 3 (celsF (if undE a dir = 0 then undT a dir else [])) := by
          obtain ⟨τ3, rfl, _⟩ := hu3
          rcases hq with h | ⟨n, h0, h1, h2, h3⟩
          · exact .inl h
          · exact .inr ⟨n, h0, h1, h2, apps_get h3⟩
        refine' S_shareO (ι := Unit) (fun _ => [(0, .sl true false 3 (fils a)), (1, .sl true false 3 (fils b)), (2, .str dir), (7, .ms 0 ver 0 (a.length + 1) 3 false), (8, .ms 0 ver 0 a.length 3 false), (9, yv), (10, .int .i64 (i : Nat)), (11, pv), (12, .int .i64 (ovE a b : Nat)), (13, qv), (14, .int .i64 (undE a dir : Nat)), (15, dv), (16, .int .i64 (difE a b : Nat)), (80, .bool false)]) (fun _ => u3) (fun _ => True) ?main2 ?rest2
        case main2 =>
          intro hsh
          by_cases hz : ovE a b = 0
          · rw [if_pos hz] at hp3
            have hC := (Check_ok (st := false) (fl := false) (ovT (a ++ b)) (fok_of (ov_ok hz))).over (.cons hp3.frzF (.nil u3))
            rw [ov_chk hz] at hC
            have e1 := eq1 _ hz
            refine pao [.b true, .o pv (fun s => s), .k (.int .i64 ((0 : Nat) : Int)), .s] rfl ?_ ?_
            · (repeat' with_reducible apply AllP_cons) <;> try exact aC
              all_goals first | exact mv rfl | exact hC | trace_state
            refine pao [.o (.bool false) (fun s => s), .o (.bool false) (fun s => s), .o (.bool false) (fun s => s), .s] rfl ?_ ?_
            · (repeat' with_reducible apply AllP_cons) <;> try exact aC
              all_goals first | exact mv rfl | trace_state
            exact hsh () _ trivial (.cons rfl (.cons rfl (.cons rfl (.cons rfl (.cons rfl (.cons rfl (.cons rfl (.cons rfl (.cons rfl (.cons rfl (.cons rfl (.cons rfl (.cons rfl (.cons rfl (.nil _)))))))))))))))
          · have e1 := eq0 _ hz
            refine pao [.b false, .o (.bool false) (fun s => s), .o (.bool false) (fun s => s), .s] rfl ?_ ?_
            · (repeat' with_reducible apply AllP_cons) <;> try exact aC
              all_goals first | exact mv rfl | trace_state
            exact hsh () _ trivial (.cons rfl (.cons rfl (.cons rfl (.cons rfl (.cons rfl (.cons rfl (.cons rfl (.cons rfl (.cons rfl (.cons rfl (.cons rfl (.cons rfl (.cons rfl (.cons rfl (.nil _)))))))))))))))
        case rest2 =>
        intro _ _
        refine' S_shareO (ι := Unit) (fun _ => [(0, .sl true false 3 (fils a)), (1, .sl true false 3 (fils b)), (2, .str dir), (7, .ms 0 ver 0 (a.length + 1) 3 false), (8, .ms 0 ver 0 a.length 3 false), (9, yv), (10, .int .i64 (i : Nat)), (11, pv), (12, .int .i64 (ovE a b : Nat)), (13, qv), (14, .int .i64 (undE a dir : Nat)), (15, dv), (16, .int .i64 (difE a b : Nat)), (89, .bool false)]) (fun _ => u3) (fun _ => True) ?main3 ?rest3
        case main3 =>
          intro hsh
          by_cases hz : undE a dir = 0
          · rw [if_pos hz] at hq3
            have hC := (Check_ok (st := false) (fl := false) (undT a dir) (fok_of (und_ok hz))).over (.cons hq3.frzF (.nil u3))
            rw [und_chk hz] at hC
            have e1 := eq1 _ hz
            refine pao [.b false, .b true, .o qv (fun s => s), .k (.int .i64 ((0 : Nat) : Int)), .s] rfl ?_ ?_
            · (repeat' with_reducible apply AllP_cons) <;> try exact aC
              all_goals first | exact mv rfl | exact hC | trace_state
            refine pao [.o (.bool false) (fun s => s), .o (.bool false) (fun s => s), .o (.bool false) (fun s => s), .o (.bool false) (fun s => s), .s] rfl ?_ ?_
            · (repeat' with_reducible apply AllP_cons) <;> try exact aC
              all_goals first | exact mv rfl | trace_state
            exact hsh () _ trivial (.cons rfl (.cons rfl (.cons rfl (.cons rfl (.cons rfl (.cons rfl (.cons rfl (.cons rfl (.cons rfl (.cons rfl (.cons rfl (.cons rfl (.cons rfl (.cons rfl (.nil _)))))))))))))))
          · have e1 := eq0 _ hz
            refine pao [.b false, .b false, .o (.bool false) (fun s => s), .o (.bool false) (fun s => s), .o (.bool false) (fun s => s), .s] rfl ?_ ?_
            · (repeat' with_reducible apply AllP_cons) <;> try exact aC
              all_goals first | exact mv rfl | trace_state
            exact hsh () _ trivial (.cons rfl (.cons rfl (.cons rfl (.cons rfl (.cons rfl (.cons rfl (.cons rfl (.cons rfl (.cons rfl (.cons rfl (.cons rfl (.cons rfl (.cons rfl (.cons rfl (.nil _)))))))))))))))
        case rest3 =>
        intro _ _
        refine' S_shareO (ι := Unit) (fun _ => [(0, .sl true false 3 (fils a)), (1, .sl true false 3 (fils b)), (2, .str dir), (7, .ms 0 ver 0 (a.length + 1) 3 false), (8, .ms 0 ver 0 a.length 3 false), (9, yv), (10, .int .i64 (i : Nat)), (11, pv), (12, .int .i64 (ovE a b : Nat)), (13, qv), (14, .int .i64 (undE a dir : Nat)), (15, dv), (16, .int .i64 (difE a b : Nat))]) (fun _ => u3) (fun _ => True) ?main4 ?rest4
        case main4 =>
          intro hsh
          by_cases hz : difE a b = 0
          · rw [if_pos hz] at hdv
            have hC := (Rise_ok (st := false) (fl := false) (difT (a ++ b)) (by have := dif_len hz; omega)).over (.cons hdv.frzT (.nil u3))
            rw [dif_rise] at hC
            have e1 := eq1 _ hz
            refine pao [.b false, .b true, .o dv (fun s => s), .k (.bool true), .b false, .s] rfl ?_ ?_
            · (repeat' with_reducible apply AllP_cons) <;> try exact aC
              all_goals first | exact mv rfl | exact hC | trace_state
            exact hsh () _ trivial (.cons rfl (.cons rfl (.cons rfl (.cons rfl (.cons rfl (.cons rfl (.cons rfl (.cons rfl (.cons rfl (.cons rfl (.cons rfl (.cons rfl (.cons rfl (.nil _))))))))))))))
          · have e1 := eq0 _ hz
            refine pao [.b false, .b false, .b false, .s] rfl ?_ ?_
            · (repeat' with_reducible apply AllP_cons) <;> try exact aC
              all_goals first | exact mv rfl | trace_state
            exact hsh () _ trivial (.cons rfl (.cons rfl (.cons rfl (.cons rfl (.cons rfl (.cons rfl (.cons rfl (.cons rfl (.cons rfl (.cons rfl (.cons rfl (.cons rfl (.cons rfl (.nil _))))))))))))))
        case rest4 =>
        intro _ _
        refine pao [.o pv (fun s => s)] rfl ?_ ?_
        · (repeat' with_reducible apply AllP_cons) <;> try exact aC
          all_goals exact mv rfl
        refine S_call rfl rfl rfl (spoilF_L hp3) (fun v s1 hR => ?_) (fun v s hR => by obtain ⟨hR, _⟩ := hR; cases hR)
        obtain ⟨hR, hb1⟩ := hR
        cases hR
        refine pao [.o qv (fun s => s)] rfl ?_ ?_
        · (repeat' with_reducible apply AllP_cons) <;> try exact aC
          all_goals exact mv rfl
        refine S_call rfl rfl rfl (spoilF_L (hq3.but hb1 hp (fun h => by omega))) (fun v s2 hR => ?_) (fun v s hR => by obtain ⟨hR, _⟩ := hR; cases hR)
        obtain ⟨hR, hb2⟩ := hR
        cases hR
        refine pao [.o dv (fun s => s)] rfl ?_ ?_
        · (repeat' with_reducible apply AllP_cons) <;> try exact aC
          all_goals exact mv rfl
        refine S_call rfl rfl rfl (spoilT_L ((hdv.but hb1 hp (fun h => by omega)).but hb2 hq (fun h => by omega))) (fun v s3 hR => ?_) (fun v s hR => by obtain ⟨hR, _⟩ := hR; cases hR)
        obtain ⟨hR, hb3⟩ := hR
        cases hR
        refine pao [] rfl ?_ ?_
        · (repeat' with_reducible apply AllP_cons) <;> try exact aC
        have h9 : RAtF a b s3 ver yv := by
          refine h3.mono (by rw [hb3.len, hb2.len, hb1.len]; show σ.length ≤ u3.length; omega) (hb3.al (hb2.al (hb1.al h6.al))) fun j hj => ?_
          have hj : j < σ.length := hj
          have q3 : ∀ ver n m, dv ≠ .ms j ver 0 n m false := fun ver n m e => by have h := (hdv.lt e).1; omega
          have q2 : ∀ ver n m, qv ≠ .ms j ver 0 n m false := fun ver n m e => by have h := (hq.lt e).1; omega
          have q1 : ∀ ver n m, pv ≠ .ms j ver 0 n m false := fun ver n m e => by have h := (hp.lt e).1; omega
          rw [hb3.same j q3, hb2.same j q2, hb1.same j q1]
          obtain ⟨τ1, rfl, _⟩ := hu
          obtain ⟨τ2, rfl, _⟩ := hu2
          obtain ⟨τ3, rfl, _⟩ := hu3
          rw [List.append_assoc, List.append_assoc]
          exact List.getElem?_append_left hj
        exact S_round (i + 1, s3) (by show 2 - (i + 1) < 2 - i; omega) ⟨by show i + 1 ≤ 2; omega, h9⟩ (.cons rfl (.cons rfl (.cons rfl (.cons rfl (.cons rfl (.cons rfl (.cons hi1 (.nil _)))))))) rfl
end Go.Proofs.YtjkeekbfgnmngaaGreatDoor
end
section
set_option linter.unusedVariables false
set_option linter.unusedSimpArgs false
set_option maxRecDepth 20000
namespace Go.Proofs.YtjkeekbfgnmngaaGreatDoor
open Go Go.Ab
theorem open_file {H : Type} {d : DataW H} {a : AV} (h : RdD Tryz.prog 25 d a) : ∃ f : Fil, a = filA f := by
  obtain ⟨ds, xs, rfl, rfl, hall⟩ := h.inv_st Tryz.underlying25
  obtain ⟨d0, ds, x0, xs, rfl, rfl, h0, hall⟩ := hall.cons
  obtain ⟨d1, ds, x1, xs, rfl, rfl, h1, hall⟩ := hall.cons
  obtain ⟨d2, ds, x2, xs, rfl, rfl, h2, hall⟩ := hall.cons
  obtain ⟨rfl, rfl⟩ := hall.nil
  obtain ⟨s0, rfl, rfl, _⟩ := h0.inv_str Tryz.underlying9
  obtain ⟨s1, rfl, rfl, _⟩ := h1.inv_str Tryz.underlying9
  obtain ⟨b, rfl, rfl⟩ := h2.inv_bool Tryz.underlying4
  exact ⟨⟨s0, s1, b⟩, rfl⟩
theorem open_F {H : Type} {d : DataW H} {a : AV} (h : RdD Tryz.prog 22 d a) : ∃ l : List Fil, a = .sl true false 3 (fils l) := by
  obtain ⟨ds, xs, rfl, hl, hm, hall, _⟩ := h.inv_sl Tryz.underlying22
  obtain ⟨ys, rfl, hy, hg⟩ := RdD.each filA (fun _ _ => True) hl hall (fun d x h => by
    obtain ⟨f, rfl⟩ := open_file h
    exact ⟨f, rfl, trivial⟩)
  have hc : Tryz.prog.cellsOf 25 = 3 := by kernel_rfl
  exact ⟨ys, by rw [hc]; rfl⟩
end Go.Proofs.YtjkeekbfgnmngaaGreatDoor
end
