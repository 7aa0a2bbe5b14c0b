/-
  Texts of our own, in one file.
-/
import Derived.Test.YtopdpbcfgjijaaaGrpB
import Derived.Maps.RangeRun
import Derived.Test.YtopdpbcfgjijaaaProg
import Derived.KernelRfl
import Derived.Lib.Bytealg
import Derived.Scope
import Derived.Shelf.SlIter.Nil
import Derived.Shelf.SortM.Plain
import Derived.Shelf.SortM.SortNone
section
set_option linter.unusedVariables false
set_option linter.unusedSimpArgs false
namespace Go.Ab
open Go
def MapIs (r : Rl) (w : World) (es : Array MapEntry) (clock : Nat) (kvs : List (AV × AV)) (st : Option (List Nat × Nat)) : Prop :=
  es.size = kvs.length ∧ (∀ i (h : i < kvs.length), ∃ e, es[i]? = some e ∧ VRel r w e.key kvs[i].1 ∧ VRel r w e.val kvs[i].2) ∧
    (∀ (i j : Nat) (e f : MapEntry), es[i]? = some e → es[j]? = some f → e.born = f.born → i = j) ∧ (∀ (i : Nat) (e : MapEntry), es[i]? = some e → e.born < clock) ∧ (∀ bs c, st = some (bs, c) → es.toList.map MapEntry.born = bs ∧ clock = c)
theorem MapIs.mono {r r' : Rl} {w w' : World} {es : Array MapEntry} {clock : Nat} {kvs : List (AV × AV)} {st : Option (List Nat × Nat)} (g : Grow r w r' w') (h : MapIs r w es clock kvs st) : MapIs r' w' es clock kvs st := by
  obtain ⟨h1, h2, h3⟩ := h
  refine ⟨h1, fun i hi => ?_, h3⟩
  obtain ⟨e, he, hk, hv⟩ := h2 i hi
  exact ⟨e, he, hk.mono g, hv.mono g⟩
theorem Inv.mapAt {cx : Cx} {r : Rl} {σ : Heap} {w : World} {id ver : Nat} {kvs : List (AV × AV)} {st : Option (List Nat × Nat)} {z : Value} (hi : Inv cx r σ w) (hσ : σ[id]? = some (ver, some (.map kvs st))) (hz : VRel r w z (.map id ver)) :
    ∃ b es clock, z = .map (some b) ∧ r.ρ id ver = some (b, 0) ∧ w.heap[b]? = some (.map es clock) ∧ MapIs r w es clock kvs st := by
  rcases hi.box id ver _ hσ with ⟨b, o', hρ, hb⟩ | ⟨_, ro, h⟩
  · obtain ⟨rfl, es, clock, h1, h2⟩ := hb
    cases hz with
    | map h => rw [hρ] at h; cases h; exact ⟨b, es, clock, rfl, hρ, h1, h2⟩
  · cases h
theorem Inv.mapSet {cx : Cx} {r : Rl} {σ : Heap} {w : World} {id ver b : Nat} {kvs kvs' : List (AV × AV)} {st st' : Option (List Nat × Nat)} {es es' : Array MapEntry} {clock clock' : Nat} (hi : Inv cx r σ w) (hσ : σ[id]? = some (ver, some (.map kvs st)))
    (hρ : r.ρ id ver = some (b, 0)) (hb : w.heap[b]? = some (.map es clock)) (hm : MapIs r w es' clock' kvs' st') :
    ∃ r', Inv cx r' (σ.set id (ver, some (.map kvs' st'))) { w with heap := w.heap.setIfInBounds b (.map es' clock') } ∧ Ext r σ w r' (σ.set id (ver, some (.map kvs' st'))) { w with heap := w.heap.setIfInBounds b (.map es' clock') } := by
  have hid : id < σ.length := by
    rcases Nat.lt_or_ge id σ.length with h | h
    · exact h
    · rw [List.getElem?_eq_none h] at hσ; cases hσ
  have hbb : b < w.heap.size := by
    rcases Nat.lt_or_ge b w.heap.size with h | h
    · exact h
    · rw [Array.getElem?_eq_none h] at hb; cases hb
  have hu := hi.update (σ' := σ.set id (ver, some (.map kvs' st'))) (id := id) (ver := ver) (b := b) (o := 0) (x := .map kvs' st') (w' := { w with heap := w.heap.setIfInBounds b (.map es' clock') })
      (by simp [hid]) (fun j hj => by rw [List.getElem?_set, if_neg (Ne.symm hj)]) (fun c2 y hy => by rw [hσ] at hy; cases hy; exact .inr ⟨rfl, hρ⟩) (.inr ⟨ver, _, 0, hσ, hρ⟩)
      (fun k hk hkb => by simp [Array.getElem?_setIfInBounds, Ne.symm hkb]) (by simp) (fun c2 t2 f2 hc2 => by rw [hb] at hc2; cases hc2) rfl rfl rfl
      (fun g => ⟨rfl, es', clock', by simp [Array.getElem?_setIfInBounds, hbb], hm.mono g⟩)
  exact ⟨_, hu⟩
def sameK : AV → AV → Option Bool
  | .str a, .str b => some (a == b)
  | .int k a, .int j b => match kindEq k j with | true => some (a == b) | false => none
  | .bool a, .bool b => some (a == b)
  | _, _ => none
def findK (key : AV) : List (AV × AV) → Nat → Option (Option (Nat × AV))
  | [], _ => some none
  | e :: r, i => match sameK key e.1 with
    | some true => some (some (i, e.2))
    | some false => findK key r (i + 1)
    | none => none
def keyFits (P : Program) (k : TypeId) (key : AV) : Bool := match P.underlying k, key with
  | some .string, .str _ => true
  | some (.int _), .int _ _ => true
  | some .bool, .bool _ => true
  | _, _ => false
theorem sameK_run {r : Rl} {w : World} {d : TypeDesc} {key k : Value} {a b : AV} {t : Bool} (hd : (d = .string ∧ ∃ s, a = .str s) ∨ (∃ j, d = .int j ∧ ∃ n m, a = .int n m) ∨ (d = .bool ∧ ∃ x, a = .bool x)) (h : sameK a b = some t) (ha : VRel r w key a) (hb : VRel r w k b) :
    Instr.sameNow d key k = some t ∧ (t = true → Instr.sameBits 10000 k key = true) := by
  rcases hd with ⟨rfl, s, rfl⟩ | ⟨j, rfl, n, m, rfl⟩ | ⟨rfl, x, rfl⟩
  · unfold sameK at h
    split at h <;> try (cases h; done)
    · rename_i a1 b1 e1
      cases e1
      simp only [Option.some.injEq] at h
      cases ha with
      | str ha =>
        cases hb with
        | str hb =>
          rename_i x y
          have hxy : (x == y) = t := by
            rw [← h, ← ha, ← hb, Bool.eq_iff_iff, MapKept.bytes_beq]
            simp only [beq_iff_eq, Array.toList_inj]
            exact ⟨fun h => by rw [h], fun h => ByteArray.ext h⟩
          refine ⟨by simp only [Instr.sameNow, hxy], fun ht => ?_⟩
          rw [ht] at hxy
          obtain rfl := (MapKept.bytes_beq _ _).1 hxy
          unfold Instr.sameBits
          exact (MapKept.bytes_beq _ _).2 rfl
    · rename_i e1; cases e1
    · rename_i e1; cases e1
  · unfold sameK at h
    split at h <;> try (cases h; done)
    · rename_i e1; cases e1
    · rename_i k1 a1 j1 b1 e1
      cases e1
      split at h
      · rename_i hk
        have hk := kindEq_eq hk
        subst hk
        simp only [Option.some.injEq] at h
        cases ha; cases hb
        refine ⟨by simp [Instr.sameNow, h], fun ht => ?_⟩
        rw [ht] at h
        have h := eq_of_beq h
        subst h
        simp [Instr.sameBits]
      · cases h
    · rename_i e1; cases e1
  · unfold sameK at h
    split at h <;> try (cases h; done)
    · rename_i e1; cases e1
    · rename_i e1; cases e1
    · rename_i e1
      cases e1
      simp only [Option.some.injEq] at h
      cases ha; cases hb
      refine ⟨by simp [Instr.sameNow, h], fun ht => ?_⟩
      rw [ht] at h
      have h := eq_of_beq h
      subst h
      simp [Instr.sameBits]
theorem findK_run {r : Rl} {w : World} {d : TypeDesc} {key : Value} {a : AV} (hd : (d = .string ∧ ∃ s, a = .str s) ∨ (∃ j, d = .int j ∧ ∃ n m, a = .int n m) ∨ (d = .bool ∧ ∃ x, a = .bool x)) (ha : VRel r w key a) :
    ∀ (l : List MapEntry) (kvs : List (AV × AV)) (i : Nat) (res : Option (Nat × AV)), l.length = kvs.length → (∀ j (h : j < kvs.length), ∃ e, l[j]? = some e ∧ VRel r w e.key kvs[j].1 ∧ VRel r w e.val kvs[j].2) → findK a kvs i = some res →
    (res = none ∧ Instr.findNow d key l i = some none) ∨ ∃ j v e, res = some (i + j, v) ∧ l[j]? = some e ∧ Instr.findNow d key l i = some (some (i + j, e.val)) ∧ VRel r w e.val v ∧ Instr.sameBits 10000 e.key key = true ∧ j < kvs.length
  | [], [], i, res, _, _, h => by
    simp only [findK, Option.some.injEq] at h
    exact .inl ⟨h.symm, rfl⟩
  | [], _ :: _, _, _, hl, _, _ => by simp at hl
  | _ :: _, [], _, _, hl, _, _ => by simp at hl
  | e :: l, p :: kvs, i, res, hl, hr, h => by
    obtain ⟨e0, q1, q2, q3⟩ := hr 0 (by simp)
    simp only [List.getElem?_cons_zero, Option.some.injEq, List.getElem_cons_zero] at q1 q2 q3
    subst q1
    unfold findK at h
    split at h
    · rename_i hs
      simp only [Option.some.injEq] at h
      obtain ⟨s1, s2⟩ := sameK_run hd hs ha q2
      refine .inr ⟨0, p.2, e, by simpa using h.symm, rfl, ?_, q3, s2 rfl, by simp⟩
      unfold Instr.findNow
      rw [s1]; rfl
    · rename_i hs
      obtain ⟨s1, _⟩ := sameK_run hd hs ha q2
      have ih := findK_run hd ha l kvs (i + 1) res (by simpa using hl) (fun j hj => by
        obtain ⟨e', m1, m2, m3⟩ := hr (j + 1) (by simp; omega)
        exact ⟨e', by simpa using m1, by simpa using m2, by simpa using m3⟩) h
      have hf : Instr.findNow d key (e :: l) i = Instr.findNow d key l (i + 1) := by
        conv => lhs; unfold Instr.findNow
        rw [s1]
      rw [hf]
      rcases ih with ⟨h1, h2⟩ | ⟨j, v, e', h1, h2, h3, h4, h5, h6⟩
      · exact .inl ⟨h1, h2⟩
      · refine .inr ⟨j + 1, v, e', ?_, by simpa using h2, ?_, h4, h5, by simp; omega⟩
        · rw [h1]; congr 2; omega
        · rw [h3]; congr 3; omega
    · cases h
theorem keyFits_spec {P : Program} {k : TypeId} {a : AV} (h : keyFits P k a = true) : ∃ d, P.underlying k = some d ∧ ((d = .string ∧ ∃ s, a = .str s) ∨ (∃ j, d = .int j ∧ ∃ n m, a = .int n m) ∨ (d = .bool ∧ ∃ x, a = .bool x)) := by
  unfold keyFits at h
  split at h
  · rename_i h1; exact ⟨_, h1, .inl ⟨rfl, _, rfl⟩⟩
  · rename_i h1; exact ⟨_, h1, .inr (.inl ⟨_, rfl, _, _, rfl⟩)⟩
  · rename_i h1; exact ⟨_, h1, .inr (.inr ⟨rfl, _, rfl⟩)⟩
  · cases h
theorem checkKey_run {P : Program} {w : World} {k : TypeId} {d : TypeDesc} {key : Value} {r : Rl} {a : AV} (e : Bool) (hu : P.underlying k = some d) (hd : (d = .string ∧ ∃ s, a = .str s) ∨ (∃ j, d = .int j ∧ ∃ n m, a = .int n m) ∨ (d = .bool ∧ ∃ x, a = .bool x)) (ha : VRel r w key a) :
    (Instr.checkKey e 10000 k key).run P w = .ok () w := by
  unfold Instr.checkKey
  rcases hd with ⟨rfl, s, rfl⟩ | ⟨j, rfl, n, m, rfl⟩ | ⟨rfl, x, rfl⟩ <;> cases ha <;> simp [run_underlying hu]
def okV (ok : Bool) (v : AV) (t : Bool) : AV := match ok with | true => .tup [v, .bool t] | false => v
def setK (kvs : List (AV × AV)) (key v : AV) (h : Option (Nat × AV)) : List (AV × AV) := match h with
  | some (i, _) => kvs.set i (key, v)
  | none => kvs ++ [(key, v)]
def setB (st : Option (List Nat × Nat)) (h : Option (Nat × AV)) : Option (List Nat × Nat) := match h with
  | some _ => st
  | none => match st with
    | some (bs, c) => some (bs ++ [c], c + 1)
    | none => none
def delK (kvs : List (AV × AV)) (h : Option (Nat × AV)) : List (AV × AV) := match h with
  | some (i, _) => kvs.eraseIdx i
  | none => kvs
def delB (st : Option (List Nat × Nat)) (h : Option (Nat × AV)) : Option (List Nat × Nat) := match h with
  | some (i, _) => match st with
    | some (bs, c) => some (bs.eraseIdx i, c)
    | none => none
  | none => st
def mapA (cx : Cx) (fr : Fr) (σ : Heap) (o : Op) (h : Option (Nat × AV)) : Option (List Prop × AV × Heap) :=
  match o with
  | .lookup t m k ok => match cx.P.underlying t with
    | some (.map kt et) => match keyFits cx.P kt (ev cx fr k) with
      | true => match ev cx fr m with
        | .map id ver => match σ[id]? with
          | some (cur, some (.map kvs _)) => match h with
            | some (_, v) => some ([ver = cur, findK (ev cx fr k) kvs 0 = some h], okV ok v true, σ)
            | none => match zeroV cx.P et with
              | some z => some ([ver = cur, findK (ev cx fr k) kvs 0 = some h], okV ok z false, σ)
              | none => none
          | _ => none
        | _ => none
      | false => none
    | _ => none
  | .mapUpdate t m k x => match cx.P.underlying t with
    | some (.map kt _) => match keyFits cx.P kt (ev cx fr k) with
      | true => match ev cx fr m with
        | .map id ver => match σ[id]? with
          | some (cur, some (.map kvs st)) => some ([ver = cur, findK (ev cx fr k) kvs 0 = some h], .tup [], σ.set id (cur, some (.map (setK kvs (ev cx fr k) (ev cx fr x) h) (setB st h))))
          | _ => none
        | _ => none
      | false => none
    | _ => none
  | .call { callee := .builtin .delete, args := args, argTypes := ts } => match args.toList, ts.toList with
    | [m, k], [t, _] => match cx.P.underlying t with
      | some (.map kt _) => match keyFits cx.P kt (ev cx fr k) with
        | true => match ev cx fr m with
          | .map id ver => match σ[id]? with
            | some (cur, some (.map kvs st)) => some ([ver = cur, findK (ev cx fr k) kvs 0 = some h], .tup [], σ.set id (cur, some (.map (delK kvs h) (delB st h))))
            | _ => none
          | _ => none
        | false => none
      | _ => none
    | _, _ => none
  | _ => none
theorem findKey_run {cx : Cx} {r : Rl} {w : World} {kt : TypeId} {key : Value} {a : AV} {es : Array MapEntry} {clock : Nat} {kvs : List (AV × AV)} {st : Option (List Nat × Nat)} {h : Option (Nat × AV)} (hk : keyFits cx.P kt a = true) (ha : VRel r w key a)
    (hm : MapIs r w es clock kvs st) (hf : findK a kvs 0 = some h) : (∀ e, (Instr.checkKey e 10000 kt key).run cx.P w = .ok () w) ∧
    ((h = none ∧ (Instr.findKey kt key es.toList).run cx.P w = .ok none w) ∨ ∃ j v e, h = some (j, v) ∧ es[j]? = some e ∧ (Instr.findKey kt key es.toList).run cx.P w = .ok (some (j, e.val)) w ∧ VRel r w e.val v ∧ Instr.sameBits 10000 e.key key = true ∧ j < kvs.length) := by
  obtain ⟨d, hu, hd⟩ := keyFits_spec hk
  refine ⟨fun e => checkKey_run e hu hd ha, ?_⟩
  rcases findK_run hd ha es.toList kvs 0 h (by rw [Array.length_toList]; exact hm.1) (fun j hj => by
    obtain ⟨e, h1, h2, h3⟩ := hm.2.1 j hj
    exact ⟨e, by rw [Array.getElem?_toList]; exact h1, h2, h3⟩) hf with ⟨h1, h2⟩ | ⟨j, v, e, h1, h2, h3, h4, h5, h6⟩
  · exact .inl ⟨h1, by simp [Instr.findKey, run_underlying hu, h2]⟩
  · rw [Nat.zero_add] at h1 h3
    rw [Array.getElem?_toList] at h2
    exact .inr ⟨j, v, e, h1, h2, by simp [Instr.findKey, run_underlying hu, h3], h4, h5, h6⟩
theorem MapIs.setK {r : Rl} {w : World} {es : Array MapEntry} {clock : Nat} {kvs : List (AV × AV)} {st : Option (List Nat × Nat)} {key val : Value} {a x : AV} (hm : MapIs r w es clock kvs st) (ha : VRel r w key a) (hx : VRel r w val x) {j : Nat} {v : AV} (hj : j < kvs.length) :
    MapIs r w (es.modify j fun e => { e with key := key, val := val }) clock (Ab.setK kvs a x (some (j, v))) st := by
  obtain ⟨h1, h2, h3, h4, h5⟩ := hm
  have hget : ∀ i, (es.modify j fun e => { e with key := key, val := val })[i]? = if j = i then es[i]?.map (fun e => { e with key := key, val := val }) else es[i]? := fun i => by
    rw [Array.getElem?_modify]
  have hback : ∀ {i : Nat} {e : MapEntry}, (es.modify j fun e => { e with key := key, val := val })[i]? = some e → ∃ e', es[i]? = some e' ∧ e'.born = e.born := by
    intro i e he
    rw [hget] at he
    split at he
    · cases hh : es[i]? with
      | none => rw [hh] at he; cases he
      | some e' => rw [hh] at he; simp at he; exact ⟨e', rfl, by rw [← he]⟩
    · exact ⟨e, he, rfl⟩
  refine ⟨by simpa [Ab.setK] using h1, fun i hi => ?_, fun i i' e f he hf hb => ?_, fun i e he => ?_, fun bs c hst => ?_⟩
  · simp only [Ab.setK, List.length_set] at hi
    obtain ⟨e, q1, q2, q3⟩ := h2 i hi
    simp only [Ab.setK]
    by_cases hij : j = i
    · subst hij
      refine ⟨_, by rw [hget, if_pos rfl, q1]; rfl, ?_, ?_⟩
      · rw [List.getElem_set_self]; exact ha
      · rw [List.getElem_set_self]; exact hx
    · refine ⟨e, by rw [hget, if_neg hij]; exact q1, ?_, ?_⟩
      · rw [List.getElem_set_ne hij]; exact q2
      · rw [List.getElem_set_ne hij]; exact q3
  · obtain ⟨e', k1, k2⟩ := hback he
    obtain ⟨f', k3, k4⟩ := hback hf
    exact h3 i i' e' f' k1 k3 (by rw [k2, k4, hb])
  · obtain ⟨e', k1, k2⟩ := hback he
    rw [← k2]; exact h4 i e' k1
  · obtain ⟨k1, k2⟩ := h5 bs c hst
    refine ⟨?_, k2⟩
    rw [← k1]
    apply List.ext_getElem?
    intro i
    rw [List.getElem?_map, List.getElem?_map, Array.getElem?_toList, Array.getElem?_toList, hget]
    split
    · cases es[i]? <;> rfl
    · rfl
theorem MapIs.pushK {r : Rl} {w : World} {es : Array MapEntry} {clock : Nat} {kvs : List (AV × AV)} {st : Option (List Nat × Nat)} {key val : Value} {a x : AV} (hm : MapIs r w es clock kvs st) (ha : VRel r w key a) (hx : VRel r w val x) :
    MapIs r w (es.push { key := key, val := val, born := clock }) (clock + 1) (Ab.setK kvs a x none) (setB st none) := by
  obtain ⟨h1, h2, h3, h4, h5⟩ := hm
  have hback : ∀ {i : Nat} {e : MapEntry}, (es.push { key := key, val := val, born := clock })[i]? = some e → (es[i]? = some e ∧ e.born < clock) ∨ (i = es.size ∧ e.born = clock) := by
    intro i e he
    rw [Array.getElem?_push] at he
    split at he
    · rename_i hh
      cases he; exact .inr ⟨hh, rfl⟩
    · exact .inl ⟨he, h4 i e he⟩
  refine ⟨by simp [Ab.setK, h1], fun i hi => ?_, fun i i' e f he hf hb => ?_, fun i e he => ?_, fun bs c hst => ?_⟩
  · simp only [Ab.setK, List.length_append, List.length_cons, List.length_nil] at hi
    simp only [Ab.setK]
    by_cases hlt : i < kvs.length
    · obtain ⟨e, q1, q2, q3⟩ := h2 i hlt
      refine ⟨e, by rw [Array.getElem?_push, if_neg (by omega)]; exact q1, ?_, ?_⟩
      · rw [List.getElem_append_left hlt]; exact q2
      · rw [List.getElem_append_left hlt]; exact q3
    · obtain rfl : i = kvs.length := by omega
      refine ⟨_, by rw [Array.getElem?_push, if_pos h1.symm], ?_, ?_⟩
      · rw [List.getElem_append_right (Nat.le_refl _)]; simpa using ha
      · rw [List.getElem_append_right (Nat.le_refl _)]; simpa using hx
  · rcases hback he with ⟨k1, k2⟩ | ⟨k1, k2⟩ <;> rcases hback hf with ⟨k3, k4⟩ | ⟨k3, k4⟩
    · exact h3 i i' e f k1 k3 hb
    · omega
    · omega
    · omega
  · rcases hback he with ⟨k1, k2⟩ | ⟨k1, k2⟩ <;> omega
  · unfold setB at hst
    cases st with
    | none => cases hst
    | some s =>
      obtain ⟨bs0, c00⟩ := s
      cases hst
      obtain ⟨k1, k2⟩ := h5 bs0 c00 rfl
      exact ⟨by rw [Array.toList_push, List.map_append, k1, k2]; rfl, by rw [k2]⟩
theorem MapIs.delK {r : Rl} {w : World} {es : Array MapEntry} {clock : Nat} {kvs : List (AV × AV)} {st : Option (List Nat × Nat)} (hm : MapIs r w es clock kvs st) {j : Nat} {v : AV} (hj : j < kvs.length) :
    MapIs r w (es.eraseIdxIfInBounds j) clock (Ab.delK kvs (some (j, v))) (delB st (some (j, v))) := by
  obtain ⟨h1, h2, h3, h4, h5⟩ := hm
  have hjs : j < es.size := by omega
  have hsub : (es.eraseIdxIfInBounds j).toList = es.toList.eraseIdx j := by
    unfold Array.eraseIdxIfInBounds
    rw [dif_pos hjs]; simp
  have hget : ∀ i, (es.eraseIdxIfInBounds j)[i]? = if i < j then es[i]? else es[i + 1]? := fun i => by
    rw [← Array.getElem?_toList, hsub, List.getElem?_eraseIdx, Array.getElem?_toList, Array.getElem?_toList]
  have hsz : (es.eraseIdxIfInBounds j).size = es.size - 1 := by
    rw [← Array.length_toList, hsub, List.length_eraseIdx_of_lt (by rw [Array.length_toList]; exact hjs), Array.length_toList]
  refine ⟨by rw [hsz, h1]; simp only [Ab.delK]; rw [List.length_eraseIdx_of_lt hj], fun i hi => ?_, fun i i' e f he hf hb => ?_, fun i e he => ?_, fun bs c hst => ?_⟩
  · simp only [Ab.delK] at hi ⊢
    rw [List.length_eraseIdx_of_lt hj] at hi
    rw [hget]
    by_cases hij : i < j
    · obtain ⟨e, q1, q2, q3⟩ := h2 i (by omega)
      refine ⟨e, by rw [if_pos hij]; exact q1, ?_, ?_⟩
      · rw [List.getElem_eraseIdx_of_lt _ hij]; exact q2
      · rw [List.getElem_eraseIdx_of_lt _ hij]; exact q3
    · obtain ⟨e, q1, q2, q3⟩ := h2 (i + 1) (by omega)
      refine ⟨e, by rw [if_neg hij]; exact q1, ?_, ?_⟩
      · rw [List.getElem_eraseIdx_of_ge _ (by omega)]; exact q2
      · rw [List.getElem_eraseIdx_of_ge _ (by omega)]; exact q3
  · rw [hget] at he hf
    split at he <;> split at hf <;> (have := h3 _ _ _ _ he hf hb; omega)
  · rw [hget] at he
    split at he <;> exact h4 _ _ he
  · unfold delB at hst
    cases st with
    | none => cases hst
    | some s =>
      obtain ⟨bs0, c0⟩ := s
      cases hst
      obtain ⟨k1, k2⟩ := h5 bs0 _ rfl
      refine ⟨?_, k2⟩
      rw [hsub, ← k1]
      exact (Go.ChangeMaps.map_eraseIdx _ _ _)
theorem MapIs.noB {r : Rl} {w : World} {es : Array MapEntry} {clock : Nat} {kvs : List (AV × AV)} {st : Option (List Nat × Nat)} (hm : MapIs r w es clock kvs st) : MapIs r w es clock kvs none :=
  ⟨hm.1, hm.2.1, hm.2.2.1, hm.2.2.2.1, fun bs c h => by cases h⟩
theorem mapA_run {cx : Cx} {r : Rl} {σ σ' : Heap} {w : World} {n : Nat} {fr : Fr} {a : Act} {o : Oper} {hh : Option (Nat × AV)} {C : List Prop} {v : AV} (hi : Inv cx r σ w) (hf : FRel r w n fr a) (h : mapA cx fr σ o.op hh = some (C, v, σ')) (hC : AllP C) :
    OpRes cx r σ w ((execOp a.eval o).run cx.P w) v σ' := by
  have he : ∀ x, VRel r w (a.eval x) (ev cx fr x) := fun x => ev_rel hi hf x
  have q : ∀ {s : Sem Value} {v : AV} {σ' : Heap}, (∃ v' w' r', s.run cx.P w = .ok v' w' ∧ VRel r' w' v' v ∧ Inv cx r' σ' w' ∧ Ext r σ w r' σ' w') →
      OpRes cx r σ w ((do let x ← s; pure (Next.value x) : Sem Next).run cx.P w) v σ' := by
    rintro s v σ' ⟨v', w', r', h1, h2, h3, h4⟩
    exact ⟨r', w', v', .inl (by simp [h1]), h2, h3, h4⟩
  obtain ⟨dst, op, ty, pos, after, guard⟩ := o
  simp only at h
  unfold mapA at h
  split at h
  ·
    rename_i t m k ok
    split at h
    case h_2 => cases h
    rename_i kt et hu
    split at h
    case h_2 => cases h
    rename_i hkf
    split at h
    case h_2 => cases h
    rename_i id ver hm
    split at h
    case h_2 => cases h
    rename_i cur kvs st hσ
    have hmv := he m
    rw [hm] at hmv
    unfold execOp
    refine q ?_
    split at h
    · rename_i i0 v0
      simp only [Option.some.injEq, Prod.mk.injEq] at h; obtain ⟨rfl, rfl, rfl⟩ := h
      obtain ⟨rfl, hfk, _⟩ := hC
      obtain ⟨b, es, clock, hz, hρ, hb, hmi⟩ := hi.mapAt hσ hmv
      obtain ⟨hck, hk⟩ := findKey_run hkf (he k) hmi hfk
      rcases hk with ⟨hn, _⟩ | ⟨j, v1, e, hn, hes, hrun, hv, _, _⟩
      · cases hn
      cases hn
      cases ok with
      | true =>
        refine ⟨.tuple #[e.val, .bool true], w, r, ?_, .tup rfl (fun i hi => ?_), hi, Ext.refl _ _ _⟩
        · simp [Instr.lookup, run_underlying hu, hz, MapKept.run_getObj_map hb, hck, hrun]
        · simp only [List.length_cons, List.length_nil] at hi
          rcases i with _ | _ | i
          · exact hv
          · exact .bool
          · omega
      | false =>
        refine ⟨e.val, w, r, ?_, hv, hi, Ext.refl _ _ _⟩
        simp [Instr.lookup, run_underlying hu, hz, MapKept.run_getObj_map hb, hck, hrun]
    · split at h
      case h_2 => cases h
      rename_i z0 hz0
      simp only [Option.some.injEq, Prod.mk.injEq] at h; obtain ⟨rfl, rfl, rfl⟩ := h
      obtain ⟨rfl, hfk, _⟩ := hC
      obtain ⟨b, es, clock, hz, hρ, hb, hmi⟩ := hi.mapAt hσ hmv
      obtain ⟨hck, hk⟩ := findKey_run hkf (he k) hmi hfk
      obtain ⟨z, hz1, hz2⟩ := zeroV_run hz0 r w
      rcases hk with ⟨_, hrun⟩ | ⟨j, v1, e, hn, _⟩
      case inr => cases hn
      cases ok with
      | true =>
        refine ⟨.tuple #[z, .bool false], w, r, ?_, .tup rfl (fun i hi => ?_), hi, Ext.refl _ _ _⟩
        · simp [Instr.lookup, run_underlying hu, hz, MapKept.run_getObj_map hb, hck, hrun, hz1]
        · simp only [List.length_cons, List.length_nil] at hi
          rcases i with _ | _ | i
          · exact hz2
          · exact .bool
          · omega
      | false =>
        refine ⟨z, w, r, ?_, hz2, hi, Ext.refl _ _ _⟩
        simp [Instr.lookup, run_underlying hu, hz, MapKept.run_getObj_map hb, hck, hrun, hz1]
  ·
    rename_i t m k x
    split at h
    case h_2 => cases h
    rename_i kt et hu
    split at h
    case h_2 => cases h
    rename_i hkf
    split at h
    case h_2 => cases h
    rename_i id ver hm
    split at h
    case h_2 => cases h
    rename_i cur kvs st hσ
    have hmv := he m
    rw [hm] at hmv
    simp only [Option.some.injEq, Prod.mk.injEq] at h; obtain ⟨rfl, rfl, rfl⟩ := h
    obtain ⟨rfl, hfk, _⟩ := hC
    obtain ⟨b, es, clock, hz, hρ, hb, hmi⟩ := hi.mapAt hσ hmv
    obtain ⟨hck, hk⟩ := findKey_run hkf (he k) hmi hfk
    have fin : ∀ {w' : World} {es' : Array MapEntry} {clock' : Nat} {kvs' : List (AV × AV)} {st' : Option (List Nat × Nat)}, w' = { w with heap := w.heap.setIfInBounds b (.map es' clock') } → (Instr.mapUpdate t (a.eval m) (a.eval k) (a.eval x)).run cx.P w = .ok () w' → MapIs r w es' clock' kvs' st' →
        OpRes cx r σ w ((execOp a.eval ⟨dst, .mapUpdate t m k x, ty, pos, after, guard⟩).run cx.P w) (.tup []) (σ.set id (ver, some (.map kvs' st'))) := by
      rintro w' es' clock' kvs' st' rfl hrun hm'
      obtain ⟨r', k1, k2⟩ := hi.mapSet hσ hρ hb hm'
      refine ⟨r', _, undef, .inr ⟨?_, rfl⟩, .tup rfl (fun i h => absurd h (by simp)), k1, k2⟩
      simp [execOp, hrun]
    rcases hk with ⟨rfl, hrun⟩ | ⟨j, v1, e, rfl, hes, hrun, hv, hbits, hj⟩
    · refine fin (es' := es.push { key := a.eval k, val := a.eval x, born := clock }) (clock' := clock + 1) rfl ?_ (hmi.pushK (he k) (he x))
      simp [Instr.mapUpdate, run_underlying hu, hz, MapKept.run_getObj_map hb, hck, hrun, MapKept.run_setObj_map _ hb]
    · refine fin (es' := es.modify j fun e => { e with key := a.eval k, val := a.eval x }) (clock' := clock) rfl ?_ (hmi.setK (he k) (he x) hj)
      simp [Instr.mapUpdate, run_underlying hu, hz, MapKept.run_getObj_map hb, hck, hrun, hes, Instr.keyThatStays, hbits, MapKept.run_setObj_map _ hb]
  ·
    rename_i args ts
    obtain ⟨bs, hbs⟩ := run_len_call cx.P w a.eval .delete args ts dst ty pos after guard
    rw [hbs]
    split at h
    case h_2 => cases h
    rename_i m k t u hargs hts
    have h1 : args = #[m, k] := by rw [← Array.toArray_toList (xs := args), hargs]
    have h2 : ts = #[t, u] := by rw [← Array.toArray_toList (xs := ts), hts]
    subst h1; subst h2
    simp only [builtin, List.map_toArray, List.map_cons, List.map_nil]
    split at h
    case h_2 => cases h
    rename_i kt et hu
    split at h
    case h_2 => cases h
    rename_i hkf
    split at h
    case h_2 => cases h
    rename_i id ver hm
    split at h
    case h_2 => cases h
    rename_i cur kvs st hσ
    have hmv := he m
    rw [hm] at hmv
    simp only [Option.some.injEq, Prod.mk.injEq] at h; obtain ⟨rfl, rfl, rfl⟩ := h
    obtain ⟨rfl, hfk, _⟩ := hC
    obtain ⟨b, es, clock, hz, hρ, hb, hmi⟩ := hi.mapAt hσ hmv
    obtain ⟨hck, hk⟩ := findKey_run hkf (he k) hmi hfk
    refine q ?_
    rcases hk with ⟨rfl, hrun⟩ | ⟨j, v1, e, rfl, hes, hrun, hv, hbits, hj⟩
    · obtain ⟨r', k1, k2⟩ := hi.mapSet hσ hρ hb (es' := es) (clock' := clock) (kvs' := delK kvs none) (st' := delB st none) hmi
      refine ⟨.tuple #[], _, r', ?_, .tup rfl (fun i h => absurd h (by simp)), k1, k2⟩
      simp [Builtin.delete_, run_underlying hu, hz, MapKept.run_getObj_map hb, hck, hrun, MapKept.run_setObj_map _ hb]
    · obtain ⟨r', k1, k2⟩ := hi.mapSet hσ hρ hb (hmi.delK (v := v1) hj)
      refine ⟨.tuple #[], _, r', ?_, .tup rfl (fun i h => absurd h (by simp)), k1, k2⟩
      simp [Builtin.delete_, run_underlying hu, hz, MapKept.run_getObj_map hb, hck, hrun, MapKept.run_setObj_map _ hb]
  · cases h
def clrB (st : Option (List Nat × Nat)) : Option (List Nat × Nat) := match st with | some (_, c) => some ([], c) | none => none
def mapN (cx : Cx) (fr : Fr) (σ : Heap) (o : Op) : Option (List Prop × AV × Heap) :=
  match o with
  | .makeMap t none => match allocH σ (.map [] (some ([], 0))) with
    | (id, ver, σ') => some ([], .map id ver, σ')
  | .range t x => match cx.P.underlying t, ev cx fr x with
    | some (.map _ _), .map id ver => match σ[id]? with
      | some (cur, some (.map _ (some (_, c)))) => match allocH σ (.miter id ver c [] c) with
        | (i, v, σ') => some ([ver = cur], .ptr i v 0, σ')
      | _ => none
    | _, _ => none
  | .call { callee := .builtin .clear, args := args, argTypes := ts } => match args.toList, ts.toList with
    | [m], [t] => match cx.P.underlying t with
      | some (.map _ _) => match ev cx fr m with
        | .map id ver => match σ[id]? with
          | some (cur, some (.map _ st)) => some ([ver = cur], .tup [], σ.set id (cur, some (.map [] (clrB st))))
          | _ => none
        | _ => none
      | _ => none
    | _, _ => none
  | _ => none
theorem mapN_run {cx : Cx} {r : Rl} {σ σ' : Heap} {w : World} {n : Nat} {fr : Fr} {a : Act} {o : Oper} {C : List Prop} {v : AV} (hi : Inv cx r σ w) (hf : FRel r w n fr a) (h : mapN cx fr σ o.op = some (C, v, σ')) (hC : AllP C) :
    OpRes cx r σ w ((execOp a.eval o).run cx.P w) v σ' := by
  have he : ∀ x, VRel r w (a.eval x) (ev cx fr x) := fun x => ev_rel hi hf x
  have q : ∀ {s : Sem Value} {v : AV} {σ' : Heap}, (∃ v' w' r', s.run cx.P w = .ok v' w' ∧ VRel r' w' v' v ∧ Inv cx r' σ' w' ∧ Ext r σ w r' σ' w') →
      OpRes cx r σ w ((do let x ← s; pure (Next.value x) : Sem Next).run cx.P w) v σ' := by
    rintro s v σ' ⟨v', w', r', h1, h2, h3, h4⟩
    exact ⟨r', w', v', .inl (by simp [h1]), h2, h3, h4⟩
  obtain ⟨dst, op, ty, pos, after, guard⟩ := o
  simp only at h
  unfold mapN at h
  split at h
  · generalize hal : allocH σ _ = al at h
    obtain ⟨id, ver, σ1⟩ := al
    simp only [Option.some.injEq, Prod.mk.injEq] at h; obtain ⟨rfl, rfl, rfl⟩ := h
    unfold execOp
    refine q ?_
    have hn := hi.new (ob := .map #[] 0) hal (fun g => ⟨rfl, #[], 0, heap_alloc_self w _, rfl, fun i h => absurd h (by simp), fun i j e f h => by simp at h, fun i e h => by simp at h, fun bs c h => by cases h; exact ⟨rfl, rfl⟩⟩)
    refine ⟨.map (some w.heap.size), w.alloc (.map #[] 0), _, ?_, .map (o := 0) (by simp [Rl.bind]), hn.1, hn.2⟩
    simp [Instr.makeMap]
  · rename_i t x
    split at h
    case h_2 => cases h
    rename_i kt et id ver hu hx
    split at h
    case h_2 => cases h
    rename_i cur kvs bs c hσ
    generalize hal : allocH σ _ = al at h
    obtain ⟨i, v', σ1⟩ := al
    simp only [Option.some.injEq, Prod.mk.injEq] at h; obtain ⟨rfl, rfl, rfl⟩ := h
    obtain ⟨rfl, _⟩ := hC
    have hmv := he x
    rw [hx] at hmv
    obtain ⟨b, es, clock, hz, hρ, hb, hmi⟩ := hi.mapAt hσ hmv
    obtain ⟨_, rfl⟩ := hmi.2.2.2.2 _ _ rfl
    unfold execOp
    refine q ?_
    have hn := hi.new (ob := .mapIter (some b) clock #[] clock) hal (fun g => ⟨rfl, b, g.ρ _ _ _ hρ, heap_alloc_self w _⟩)
    refine ⟨.pointer (some ⟨w.heap.size, 0, none⟩), w.alloc (.mapIter (some b) clock #[] clock), _, ?_, VRel.ptr (o := 0) (off := 0) (by simp [Rl.bind]), hn.1, hn.2⟩
    rw [hz, run_range_map w t kt et b es clock hu hb]
  · rename_i args ts
    obtain ⟨bs, hbs⟩ := run_len_call cx.P w a.eval .clear args ts dst ty pos after guard
    rw [hbs]
    split at h
    case h_2 => cases h
    rename_i m t hargs hts
    have h1 : args = #[m] := by rw [← Array.toArray_toList (xs := args), hargs]
    have h2 : ts = #[t] := by rw [← Array.toArray_toList (xs := ts), hts]
    subst h1; subst h2
    simp only [builtin, List.map_toArray, List.map_cons, List.map_nil]
    split at h
    case h_2 => cases h
    rename_i kt et hu
    split at h
    case h_2 => cases h
    rename_i id ver hm
    split at h
    case h_2 => cases h
    rename_i cur kvs st hσ
    have hmv := he m
    rw [hm] at hmv
    simp only [Option.some.injEq, Prod.mk.injEq] at h; obtain ⟨rfl, rfl, rfl⟩ := h
    obtain ⟨rfl, _⟩ := hC
    obtain ⟨b, es, clock, hz, hρ, hb, hmi⟩ := hi.mapAt hσ hmv
    refine q ?_
    obtain ⟨r', k1, k2⟩ := hi.mapSet hσ hρ hb (es' := #[]) (clock' := clock) (kvs' := []) (st' := clrB st) ⟨rfl, fun i h => absurd h (by simp), fun i j e f h => by simp at h, fun i e h => by simp at h, fun bs c h => by
      cases st with
      | none => cases h
      | some s =>
        obtain ⟨b0, c0⟩ := s
        cases h
        exact ⟨rfl, (hmi.2.2.2.2 _ _ rfl).2⟩⟩
    refine ⟨.tuple #[], _, r', ?_, .tup rfl (fun i h => absurd h (by simp)), k1, k2⟩
    simp [Builtin.clear_, run_underlying hu, hz, MapKept.run_getObj_map hb, MapKept.run_setObj_map _ hb]
  · cases h
section
variable {cx : Cx} {n : Nat} {B : Bs} {k : List AI} {Q : Post} {fr : Fr} {σ : Heap}
theorem OpSpec.map {o : Oper} {v : AV} {σ' : Heap} {C : List Prop} (hh : Option (Nat × AV)) (h : mapA cx fr σ o.op hh = some (C, v, σ')) (hC : AllP C) : OpSpec cx n fr σ o v σ' := fun r a w hi hf => mapA_run hi hf h hC
theorem OpSpec.mapN {o : Oper} {v : AV} {σ' : Heap} {C : List Prop} (h : Ab.mapN cx fr σ o.op = some (C, v, σ')) (hC : AllP C) : OpSpec cx n fr σ o v σ' := fun r a w hi hf => mapN_run hi hf h hC
theorem S_stamp {todo : List AI} {id cur : Nat} {kvs : List (AV × AV)} (h : σ[id]? = some (cur, some (.map kvs none)))
    (hk : ∀ bs c, bs.length = kvs.length → bs.Nodup → (∀ x ∈ bs, x < c) → S cx n B todo Q fr (σ.set id (cur, some (.map kvs (some (bs, c)))))) (hT : ∃ c k, todo = .code c :: k ∨ ∃ all l K, todo = .ops all l K :: k) : S cx n B todo Q fr σ := by
  have key : ∀ r w, Inv cx r σ w → ∃ bs c, bs.length = kvs.length ∧ bs.Nodup ∧ (∀ x ∈ bs, x < c) ∧ Inv cx r (σ.set id (cur, some (.map kvs (some (bs, c))))) w ∧ Ext r σ w r (σ.set id (cur, some (.map kvs (some (bs, c))))) w := by
    intro r w hi
    rcases hi.box id cur _ h with ⟨b, o', hρ, hb⟩ | ⟨_, ro, hro⟩
    case inr => cases hro
    obtain ⟨rfl, es, clock, h1, h2, h3, h4, h5, h6⟩ := hb
    have hgt : ∀ {i : Nat} {x : Nat}, (es.toList.map MapEntry.born)[i]? = some x → ∃ e, es[i]? = some e ∧ e.born = x := by
      intro i x hx
      rw [List.getElem?_map, Array.getElem?_toList] at hx
      cases he : es[i]? with
      | none => rw [he] at hx; cases hx
      | some e => rw [he] at hx; simp at hx; exact ⟨e, rfl, hx⟩
    refine ⟨es.toList.map MapEntry.born, clock, by rw [List.length_map, Array.length_toList]; exact h2, ?_, fun x hx => ?_, ?_⟩
    · refine List.pairwise_iff_getElem.2 (fun i j hi2 hj hij e => ?_)
      obtain ⟨ej, k1, k2⟩ := hgt (i := j) (x := (es.toList.map MapEntry.born)[j]) (List.getElem?_eq_getElem hj)
      obtain ⟨ei, k3, k4⟩ := hgt (i := i) (x := (es.toList.map MapEntry.born)[i]) (List.getElem?_eq_getElem hi2)
      have := h4 i j ei ej k3 k1 (by rw [k2, k4]; exact e)
      omega
    · obtain ⟨i, hi', rfl⟩ := List.getElem_of_mem hx
      obtain ⟨e, k1, k2⟩ := hgt (List.getElem?_eq_getElem hi')
      rw [← k2]; exact h5 i e k1
    · refine hi.recastP h (fun b' o hρ' hb' => ?_) (fun ro hro => by cases hro)
      rw [hρ] at hρ'; cases hρ'
      exact ⟨rfl, es, clock, h1, h2, h3, h4, h5, fun bs c hst => by cases hst; exact ⟨rfl, rfl⟩⟩
  obtain ⟨c0, k0, hT⟩ := hT
  rcases hT with rfl | ⟨all, l, K, rfl⟩
  · intro r a w hi hf hd hx
    obtain ⟨bs, c, e1, e2, e3, q1, q2⟩ := key r w hi
    exact hk bs c e1 e2 e3 r a w q1 (hf.mono (q2.grow hi)) hd (hx.trans q2)
  · intro r a w hi hf hd hx
    obtain ⟨bs, c, e1, e2, e3, q1, q2⟩ := key r w hi
    exact hk bs c e1 e2 e3 r a w q1 (hf.mono (q2.grow hi)) hd (hx.trans q2)
theorem S_unstamp {todo : List AI} {id cur : Nat} {kvs : List (AV × AV)} {st : Option (List Nat × Nat)} (h : σ[id]? = some (cur, some (.map kvs st)))
    (hk : S cx n B todo Q fr (σ.set id (cur, some (.map kvs none)))) (hT : ∃ c k, todo = .code c :: k ∨ ∃ all l K, todo = .ops all l K :: k) : S cx n B todo Q fr σ := by
  have key : ∀ r w, Inv cx r σ w → Inv cx r (σ.set id (cur, some (.map kvs none))) w ∧ Ext r σ w r (σ.set id (cur, some (.map kvs none))) w := by
    intro r w hi
    refine hi.recast h (fun b' o hb' => ?_) (fun ro hro => by cases hro)
    obtain ⟨rfl, es, clock, h1, h2⟩ := hb'
    exact ⟨rfl, es, clock, h1, MapIs.noB h2⟩
  obtain ⟨c0, k0, hT⟩ := hT
  rcases hT with rfl | ⟨all, l, K, rfl⟩
  · intro r a w hi hf hd hx
    obtain ⟨q1, q2⟩ := key r w hi
    exact hk r a w q1 (hf.mono (q2.grow hi)) hd (hx.trans q2)
  · intro r a w hi hf hd hx
    obtain ⟨q1, q2⟩ := key r w hi
    exact hk r a w q1 (hf.mono (q2.grow hi)) hd (hx.trans q2)
theorem S_mnext {all : Array Oper} {o : Oper} {l : List Oper} {K : List Nat} {x : Operand} {id ver mid mver since last c : Nat} {seen bs : List Nat} {kvs : List (AV × AV)} (ho : o.op = .next x false) (hx0 : ev cx fr x = .ptr id ver 0) (hσ : σ[id]? = some (ver, some (.miter mid mver since seen last)))
    (hσm : σ[mid]? = some (mver, some (.map kvs (some (bs, c))))) (hold : ∀ b ∈ bs, b < since) (hsl : since ≤ last) (hg : guardA all o K fr = some true) (hd : dstOk n o.dst = true)
    (h1 : ∀ (i b : Nat) (hi : i < kvs.length), bs[i]? = some b → b ∉ seen → S cx n B (.ops all l K :: k) Q (setA o.dst (.tup [.bool true, kvs[i].1, kvs[i].2]) fr) (σ.set id (ver, some (.miter mid mver since (seen ++ [b]) c))))
    (h2 : (∀ b ∈ bs, b ∈ seen) → S cx n B (.ops all l K :: k) Q (setA o.dst (.tup [.bool false]) fr) σ) : S cx n B (.ops all (o :: l) K :: k) Q fr σ := by
  intro r a w hi hf hdf hx
  have hw := guardA_wanted (cx := cx) hf hg
  have hv := ev_rel hi hf x
  rw [hx0] at hv
  rcases hi.box id ver _ hσ with ⟨ib, o', hρ, hbx⟩ | ⟨_, ro, h⟩
  case inr => cases h
  obtain ⟨rfl, mb, hρm, hib⟩ := hbx
  rcases hi.box mid mver _ hσm with ⟨mb', o', hρ2, hbm⟩ | ⟨_, ro, h⟩
  case inr => cases h
  obtain ⟨rfl, es, clock, hmb, hm⟩ := hbm
  rw [hρm] at hρ2
  obtain rfl : mb = mb' := by cases hρ2; rfl
  obtain ⟨hbs, hck⟩ := hm.2.2.2.2 _ _ rfl
  subst hck
  have he : a.eval x = .pointer (some ⟨ib, 0, none⟩) := by
    generalize a.eval x = z at hv
    cases hv with
    | ptr h => rw [hρ] at h; cases h; rfl
  have hcon : ∀ b : Nat, seen.toArray.contains b = decide (b ∈ seen) := fun b => by simp
  unfold wpList
  rw [if_pos hw]
  refine .inl ?_
  unfold Oper.wp
  rcases run_next_at (P := cx.P) w o.type ib mb since last seen.toArray es clock hib hmb (fun y hy => hold _ (by rw [← hbs]; exact List.mem_map_of_mem hy)) hsl with ⟨h0, hrun⟩ | ⟨e, hel, w1, hw1, hrun⟩
  · have hex : (execOp a.eval o).run cx.P w = .ok (.value (.tuple #[.bool false])) w := by
      obtain ⟨dst, op, ty, ps, aft, guard⟩ := o
      simp only at ho
      subst ho
      refine exec_v ?_
      rw [he]; exact hrun
    rw [hex]
    refine h2 (fun b hb => ?_) r (a.put o.dst _) w hi (hf.setA hd (.tup rfl (fun i hi => ?_))) (hdf.put _ _) hx
    · rw [← hbs] at hb
      obtain ⟨y, hy, rfl⟩ := List.mem_map.1 hb
      have := all_seen es seen.toArray h0 y hy
      rw [hcon] at this
      exact of_decide_eq_true this
    · simp only [List.length_cons, List.length_nil] at hi
      obtain rfl : i = 0 := by omega
      exact .bool
  · obtain ⟨hem, hes⟩ := mem_left hel
    rw [hcon] at hes
    have hns : e.born ∉ seen := of_decide_eq_false hes
    obtain ⟨i, hie, hig⟩ := List.getElem_of_mem hem
    have hgi : es[i]? = some e := by rw [← Array.getElem?_toList, List.getElem?_eq_getElem hie, hig]
    have hik : i < kvs.length := by rw [← hm.1, ← Array.length_toList]; exact hie
    obtain ⟨e', k1, k2, k3⟩ := hm.2.1 i hik
    rw [hgi] at k1
    obtain rfl : e = e' := Option.some.inj k1
    have hex : (execOp a.eval o).run cx.P w = .ok (.value (.tuple #[.bool true, e.key, e.val])) (ChangeMaps.setBlock w1 ib (.mapIter (some mb) since (seen.toArray.push e.born) clock)) := by
      obtain ⟨dst, op, ty, ps, aft, guard⟩ := o
      simp only at ho
      subst ho
      unfold execOp
      simp only [he]
      simp [hrun]
    rw [hex]
    have hidl : id < σ.length := by
      rcases Nat.lt_or_ge id σ.length with h | h
      · exact h
      · rw [List.getElem?_eq_none h] at hσ; cases hσ
    have hbb : ib < w.heap.size := by
      rcases Nat.lt_or_ge ib w.heap.size with h | h
      · exact h
      · rw [Array.getElem?_eq_none h] at hib; cases hib
    have hh : w1.heap = w.heap ∧ w1.os = w.os ∧ w1.output = w.output ∧ w1.tape = w.tape := by rcases hw1 with rfl | rfl <;> exact ⟨rfl, rfl, rfl, rfl⟩
    have hu := hi.update (σ' := σ.set id (ver, some (.miter mid mver since (seen ++ [e.born]) clock))) (id := id) (ver := ver) (b := ib) (o := 0) (x := .miter mid mver since (seen ++ [e.born]) clock) (w' := ChangeMaps.setBlock w1 ib (.mapIter (some mb) since (seen.toArray.push e.born) clock))
      (by simp [hidl]) (fun j hj => by rw [List.getElem?_set, if_neg (Ne.symm hj)]) (fun c2 y hy => by rw [hσ] at hy; cases hy; exact .inr ⟨rfl, hρ⟩) (.inr ⟨ver, _, 0, hσ, hρ⟩)
      (fun k hk hkb => by simp [ChangeMaps.setBlock, hh.1, Array.getElem?_setIfInBounds, Ne.symm hkb]) (by simp [ChangeMaps.setBlock, hh.1]) (fun c2 t2 f2 hc2 => by rw [hib] at hc2; cases hc2) hh.2.1 hh.2.2.1 hh.2.2.2
      (fun g => ⟨rfl, mb, g.ρ _ _ _ hρm, by simp [ChangeMaps.setBlock, hh.1, Array.getElem?_setIfInBounds, hbb]⟩)
    obtain ⟨hi', hx'⟩ := hu
    have hg := hx'.grow hi
    refine h1 i e.born hik (by rw [← hbs, List.getElem?_map, Array.getElem?_toList, hgi]; rfl) hns _ (a.put o.dst _) _ hi' ((hf.mono hg).setA hd (.tup rfl (fun j hj => ?_))) (hdf.put _ _) (hx.trans hx')
    simp only [List.length_cons, List.length_nil] at hj
    rcases j with _ | _ | _ | j
    · exact .bool
    · exact k2.mono hg
    · exact k3.mono hg
    · omega
theorem OpSpec.entry {o : Oper} {x : Operand} {id ver mid mver since c i b : Nat} {seen bs : List Nat} {kvs : List (AV × AV)} (ho : o.op = .entry x) (hx0 : ev cx fr x = .ptr id ver 0) (hσ : σ[id]? = some (ver, some (.miter mid mver since (seen ++ [b]) c)))
    (hσm : σ[mid]? = some (mver, some (.map kvs (some (bs, c))))) (hb : bs[i]? = some b) (hik : i < kvs.length) : OpSpec cx n fr σ o (.tup [kvs[i].1, kvs[i].2]) σ := by
  intro r a w hi hf
  have hv := ev_rel hi hf x
  rw [hx0] at hv
  rcases hi.box id ver _ hσ with ⟨ib, o', hρ, hbx⟩ | ⟨_, ro, h⟩
  case inr => cases h
  obtain ⟨rfl, mb, hρm, hib⟩ := hbx
  rcases hi.box mid mver _ hσm with ⟨mb', o', hρ2, hbm⟩ | ⟨_, ro, h⟩
  case inr => cases h
  obtain ⟨rfl, es, clock, hmb, hm⟩ := hbm
  rw [hρm] at hρ2
  obtain rfl : mb = mb' := by cases hρ2; rfl
  obtain ⟨hbs, hck⟩ := hm.2.2.2.2 _ _ rfl
  subst hck
  have he : a.eval x = .pointer (some ⟨ib, 0, none⟩) := by
    generalize a.eval x = z at hv
    cases hv with
    | ptr h => rw [hρ] at h; cases h; rfl
  obtain ⟨e, k1, k2, k3⟩ := hm.2.1 i hik
  have hbe : e.born = b := by
    rw [← hbs, List.getElem?_map, Array.getElem?_toList, k1] at hb
    exact Option.some.inj hb
  have hnd : (es.toList.map (·.born)).Nodup := by
    refine List.pairwise_iff_getElem.2 (fun p q hp hq hpq hee => ?_)
    rw [List.length_map, Array.length_toList] at hp hq
    simp only [List.getElem_map, Array.getElem_toList] at hee
    have := hm.2.2.1 p q _ _ (Array.getElem?_eq_getElem hp) (Array.getElem?_eq_getElem hq) hee
    omega
  have hrun := run_entry_at (P := cx.P) w ib mb since seen.toArray es clock e (by rw [hbe]; simpa using hib) hmb (by rw [← Array.mem_def]; exact Array.mem_of_getElem? k1) hnd
  refine ⟨r, w, .tuple #[e.key, e.val], .inl ?_, .tup rfl (fun j hj => ?_), hi, Ext.refl _ _ _⟩
  · obtain ⟨dst, op, ty, ps, aft, guard⟩ := o
    simp only at ho
    subst ho
    refine exec_v ?_
    rw [he]; exact hrun
  · simp only [List.length_cons, List.length_nil] at hj
    rcases j with _ | _ | j
    · exact k2
    · exact k3
    · omega
end
end Go.Ab
end
section
set_option linter.unusedVariables false
set_option linter.unusedSimpArgs false
namespace Go.Ab
open Go
section
variable {cx : Cx} {n : Nat} {B : Bs} {k : List AI} {Q : Post} {fr : Fr} {σ : Heap}
theorem pan (f : Nat) {k k' : List AI} {fr fr' : Fr} {σ σ' : Heap} {C : List Prop} (hs : List Ht) {hs' : List Ht} (h : runP cx [] n f [] hs k fr σ = ⟨C, k', fr', σ', hs'⟩) (hC : AllP C)
    (hk : S cx n B k' Q fr' σ') : S cx n B k Q fr σ := by
  have hg := runP_sound (M := []) (cx := cx) (n := n) (B := B) (Q := Q) f [] hs k fr σ
  rw [h] at hg
  exact (hg hC).2 hk
theorem OpSpec.append0 {o : Oper} {s x : Operand} {t u : TypeId} {e sz by_ : Nat} {st fl st' fl' : Bool} {xs : List AV} (ho : o.op = .call { callee := .builtin .append, args := #[s, x], argTypes := #[t, u] }) (hel : elemInfo cx.P t = some (e, sz, by_)) (hnt : notInt cx.P u = true)
    (hs : ev cx fr s = .sl st fl sz xs) (hx : ev cx fr x = .sl st' fl' sz []) : OpSpec cx n fr σ o (.sl st fl sz xs) σ := by
  intro r ac w hi hf
  have h1 := ev_rel hi hf s
  have h2 := ev_rel hi hf x
  rw [hs] at h1
  rw [hx] at h2
  obtain ⟨dst, op, ty, pos, after, guard⟩ := o
  simp only at ho
  subst ho
  obtain ⟨i, z, hu, hinfo, hz, hz1, hz2, hz3⟩ := elemInfo_some hel
  obtain ⟨d, hd, hdk⟩ := notInt_some hnt
  obtain ⟨bs, hbs⟩ := run_len_call cx.P w ac.eval .append #[s, x] #[t, u] dst ty pos after guard
  have key : ∀ (a b : Value), VRel r w a (.sl st fl sz xs) → VRel r w b (.sl st' fl' sz []) → (Builtin.append_ #[t, u] ty #[a, b]).run cx.P w = .ok a w := by
    intro a b ha hb
    have hsrc : aSrc sz (.sl st' fl' sz []) σ = some ([sz = sz, ∀ y ∈ flatA sz [], y.one = true], 0, flatA sz []) := rfl
    have hfn : flatA sz ([] : List AV) = [] := by unfold flatA; split <;> rfl
    obtain ⟨hl1, hl2, news, hl3, hl4⟩ := aSrc_run hi hsrc ⟨rfl, by (rw [hfn]; exact ⟨(fun y hy => by cases hy), trivial⟩)⟩ hb
    have hnews : news = [] := List.eq_nil_of_length_eq_zero (by rw [hl3.1, hl2]; omega)
    subst hnews
    cases a with
    | slice p n' cap =>
      obtain ⟨q1, q2, _, _⟩ := sl_cells ha
      exact run_append_room' (P := cx.P) (w := w) (ty := ty) (base := p) (sLen := n') (sCap := cap) hu hd hdk hinfo hz2 hl1 hl4 (by omega) (w2 := w) (stO_nil _ _ _ _)
    | _ => cases ha
  refine ⟨r, w, ac.eval s, .inl ?_, h1, hi, Ext.refl _ _ _⟩
  rw [hbs]
  simp only [builtin, List.map_toArray, List.map_cons, List.map_nil]
  exact exec_v (key _ _ h1 h2)
end
theorem Calc.weak {cx : Cx} {f : FuncId} {args : List AV} {res res' : AV} (h : Calc cx f args res) (hf : Free true res') (hw : ∀ r w v, VRel r w v res → VRel r w v res') : Calc cx f args res' := by
  refine ⟨hf, h.call.1, fun r w vs hi hv => (h.call.2 r w vs hi hv).mono fun e w' ⟨out, σ', r', ⟨ho, hσ⟩, hor, hi', hx'⟩ => ?_⟩
  subst ho
  cases e with
  | returned u => exact ⟨.ret res', σ', r', ⟨rfl, hσ⟩, hw _ _ _ hor, hi', hx'⟩
  | panicked chain => exact hor.elim
  | outgrown => exact hor.elim
end Go.Ab
end
section
set_option linter.unusedVariables false
set_option linter.unusedSimpArgs false
namespace Go.Ab
open Go
def MethP (P : Program) (T : TypeId) (name : String) (f : FuncId) : Prop := ∀ v w, (method (P.types.size + Made.depth) T v name).run P w = .ok (f, v) w
def MethL (P : Program) (T : TypeId) (name : String) (f : FuncId) (el : TypeId) : Prop := ∀ a w, (method (P.types.size + Made.depth) T (.pointer (some a)) name).run P w = ((loadVar el a).run P w).andThen fun x w' => .ok (f, x) w'
inductive Recv (cx : Cx) (σ : Heap) (T : TypeId) (name : String) (f : FuncId) : AV → AV → Prop
  | val {v} (h : MethP cx.P T name f) : Recv cx σ T name f v v
  | load {id ver off : Nat} {cs : List AV} {g : Tag} {el : TypeId} {x : AV} (h : MethL cx.P T name f el) (hb : boxAt σ id = some (ver, cs, g)) (hl : aLoad cx.P el (cs.drop off) = some x) : Recv cx σ T name f (.ptr id ver off) x
theorem Recv.run {cx : Cx} {r : Rl} {σ : Heap} {w : World} {T : TypeId} {name : String} {f : FuncId} {v x : AV} {z : Value} (hi : Inv cx r σ w) (h : Recv cx σ T name f v x) (hz : VRel r w z v) :
    ∃ u, (method (cx.P.types.size + Made.depth) T z name).run cx.P w = .ok (f, u) w ∧ VRel r w u x := by
  cases h with
  | val h => exact ⟨z, h z w, hz⟩
  | load h hb hl =>
    cases hz with
    | ptr hρ =>
      rename_i b' o _ _ _
      obtain ⟨v', h1, h2⟩ := aLoad_run (P := cx.P) ((hi.cells hb rfl hρ).cells'.drop _) hl
      exact ⟨v', by rw [h]; rw [h1]; rfl, h2⟩
section
variable {cx : Cx} {n : Nat} {B : Bs} {k : List AI} {Q : Post} {fr : Fr} {σ : Heap}
theorem OpSpec.store {o : Oper} {C : List Prop} {σ' : Heap} (h : storeA cx fr σ o.op = some (C, σ')) (hC : AllP C) : OpSpec cx n fr σ o (.tup []) σ' := by
  intro r a w hi hf
  have he : ∀ x, VRel r w (a.eval x) (ev cx fr x) := fun x => ev_rel hi hf x
  obtain ⟨dst, op, ty, pos, aft, guard⟩ := o
  simp only at h
  unfold storeA at h
  split at h
  case h_2 => cases h
  rename_i t s x
  have hs := he s
  have hx := he x
  split at h
  case h_2 => cases h
  rename_i m hm
  split at h
  case h_3 => cases h
  all_goals
    rename_i id ver off hse
    rw [hse] at hs
    split at h
    case h_2 => cases h
    rename_i cur cs hσ
    simp only [Option.some.injEq, Prod.mk.injEq] at h; obtain ⟨rfl, rfl⟩ := h
    obtain ⟨h1, h2, h3, h4, _⟩ := hC
    unfold execOp
    try simp only
    generalize hz : a.eval s = z at hs
    cases hs
    rename_i b o' hρ
    obtain ⟨w', r', k1, k2, k3⟩ := store_main hi hm hσ h3 h4 h1 (allOne_mem h2) hx hρ
    refine ⟨r', w', undef, .inr ⟨?_, rfl⟩, .tup rfl (fun i h => absurd h (by simp)), k2, k3⟩
    simp [Instr.storeAt, Instr.sureAddr, k1]
end
end Go.Ab
end
section
set_option linter.unusedVariables false
set_option linter.unusedSimpArgs false
namespace Go.Ab
open Go
theorem CallOk.frame {cx : Cx} {f : FuncId} {args args' : List AV} {σ σs σs' es : Heap} {x x' : AV} (ids : List Nat) (h : CallOk cx f args σs (fun e s => e = .ret x ∧ s = σs')) (ha : Rns ids args args') (hp : Part ids σs σ)
    (hes : RnH (ids ++ newIds σ.length (es.length - ids.length)) σs' es) (hx : Rn (ids ++ newIds σ.length (es.length - ids.length)) x x') : CallOk cx f args' σ (fun e s => e = .ret x' ∧ s = putAll σ ids es) := by
  refine ⟨h.1, fun r w vs hi hv => ?_⟩
  have hsub := frame_down hi hp
  have hvs : VRels (r.sub ids) w vs args := by
    refine ⟨hv.1.trans ha.1.symm, fun i hi' => ?_⟩
    refine (ha.2 i hi' (by rw [← ha.1]; exact hi')).down (r := r) (r' := r.sub ids) (fun _ h => h) (fun _ h => h) hi.SI (fun i j ver p h1 h2 => ?_) (hv.2 i (by rw [← ha.1]; exact hi'))
    simp only [Rl.sub, h1]; exact h2
  refine (h.2 _ w vs hsub hvs).mono fun e w' ⟨out, σ1, r1, hRo, ho, hi1, hx1⟩ => ?_
  obtain ⟨rfl, rfl⟩ := hRo
  obtain ⟨q1, q2, q3⟩ := frame_up hi hp hi1 hx1 rfl hes
  cases e with
  | returned u => exact ⟨.ret x', _, _, ⟨rfl, rfl⟩, q3 _ _ _ hx ho, q1, q2⟩
  | panicked chain => exact ho.elim
  | outgrown => exact ho.elim
theorem CallOk.fresh {cx : Cx} {f : FuncId} {args : List AV} {σs es : Heap} {x x' : AV} (σ : Heap) (h : CallOk cx f args [] (fun e s => e = .ret x ∧ s = σs)) (ha : ∀ a ∈ args, Free false a) (hes : RnH (newIds σ.length es.length) σs es) (hx : Rn (newIds σ.length es.length) x x') :
    CallOk cx f args σ (fun e s => e = .ret x' ∧ s = σ ++ es) := by
  have := CallOk.frame (σ := σ) (es := es) [] h (Rns.free ha) ⟨List.nodup_nil, (fun j hj => by cases hj), rfl, (fun i j e hi => by simp at hi)⟩ (by simpa using hes) (x' := x') (by simpa using hx)
  simpa only [putAll] using this
end Go.Ab
end
section
set_option linter.unusedVariables false
set_option linter.unusedSimpArgs false
namespace Go.Ab
open Go
structure KeyLaw {α : Type} [DecidableEq α] (cx : Cx) (kt : TypeId) (key : α → AV) : Prop where
  check : ∀ (e : Bool) (r : Rl) (w : World) (v : Value) (a : α), VRel r w v (key a) → (Instr.checkKey e 10000 kt v).run cx.P w = .ok () w
  equal : ∀ (r : Rl) (w : World) (u v : Value) (a b : α), VRel r w u (key a) → VRel r w v (key b) → (Op.equal kt u v).run cx.P w = .ok (decide (a = b)) w
  bits : ∀ (r : Rl) (w : World) (u v : Value) (a : α), VRel r w u (key a) → VRel r w v (key a) → Instr.sameBits 10000 u v = true
  slow : ∃ d, cx.P.underlying kt = some d ∧ ∀ k e l i, Instr.findNow d k (e :: l) i = none
def fieldsFit (P : Program) : List Field → List AV → Bool
  | [], _ => true
  | f :: fs, xs => match aLoad P f.type (xs.drop f.offset) with
    | some y => keyFits P f.type y && fieldsFit P fs xs
    | none => false
theorem checkKey_one {P : Program} {w : World} {k : TypeId} {key : Value} {r : Rl} {a : AV} (e : Bool) (d : Nat) (h : keyFits P k a = true) (ha : VRel r w key a) : (Instr.checkKey e (d + 1) k key).run P w = .ok () w := by
  obtain ⟨q, hu, hd⟩ := keyFits_spec h
  unfold Instr.checkKey
  rcases hd with ⟨rfl, s, rfl⟩ | ⟨j, rfl, n, m, rfl⟩ | ⟨rfl, x, rfl⟩ <;> cases ha <;> simp [run_underlying hu]
theorem checkKey_struct {P : Program} {w : World} {k : TypeId} {v : Value} {r : Rl} {az : List AV} {fs : Array Field} (e : Bool) (hu : P.underlying k = some (.struct fs)) (hf : fieldsFit P fs.toList az = true) (ha : VRel r w v (.agg az)) : (Instr.checkKey e 10000 k v).run P w = .ok () w := by
  have hva : ∃ xs, v = .agg xs := by cases ha; exact ⟨_, rfl⟩
  obtain ⟨xs, rfl⟩ := hva
  show (Instr.checkKey e (9998 + 1 + 1) k (.agg xs)).run P w = _
  rw [Instr.checkKey]
  simp only [Sem.run_bind, run_underlying hu, Result.andThen_ok]
  rw [← Array.forIn_toList]
  generalize fs.toList = L at hf
  induction L with
  | nil => simp
  | cons f L ih =>
    rw [fieldsFit] at hf
    split at hf
    case h_2 => cases hf
    rename_i y hy
    rw [Bool.and_eq_true] at hf
    obtain ⟨z, p1, p2⟩ := part_run ha hy
    have p3 := checkKey_one e 9998 hf.1 p2
    by_cases hn : f.name = "_"
    · simp only [List.forIn_cons, Sem.run_bind, hn, ne_eq, not_true_eq_false, if_false, Result.andThen_ok, Sem.run_pure]
      exact ih hf.2
    · simp only [List.forIn_cons, Sem.run_bind, hn, ne_eq, not_false_eq_true, if_true, Result.andThen_ok, p1, p3, Sem.run_pure]
      exact ih hf.2
theorem equal_struct {P : Program} {w : World} {t : TypeId} {u v : Value} {r : Rl} {az bs : List AV} {fs : Array Field} {b : Bool} (ht : P.underlying t = some (.struct fs)) (hc : cmpOk P t = true) (hb : eqFs P fs.toList az bs = some b) (hx : VRel r w u (.agg az)) (hy : VRel r w v (.agg bs)) :
    (Op.equal t u v).run P w = .ok b w := by
  have hxa : ∃ xs, u = .agg xs := by cases hx; exact ⟨_, rfl⟩
  have hya : ∃ xs, v = .agg xs := by cases hy; exact ⟨_, rfl⟩
  obtain ⟨xs, rfl⟩ := hxa
  obtain ⟨ys, rfl⟩ := hya
  have hfo : P.fieldsOf t = fs := by simp [Program.fieldsOf, ht]
  unfold cmpOk at hc
  rw [ht] at hc
  simp only [Bool.and_eq_true, Bool.not_eq_true', List.all_eq_true, bne_iff_ne] at hc
  show (Op.equalIn (9998 + 1 + 1) t _ _).run P w = _
  rw [run_equalIn_struct w (9998 + 1) t xs ys (by rw [hfo]; exact ht) hc.1.1, hfo]
  exact eqFs_run 9998 hx hy fs.toList hb hc.2
def plainA : AV → Bool
  | .str _ => true
  | .int _ _ => true
  | .bool _ => true
  | _ => false
theorem bits_one {r : Rl} {w : World} {u v : Value} {a : AV} (d : Nat) (h : plainA a = true) (hu : VRel r w u a) (hv : VRel r w v a) : Instr.sameBits d u v = true := by
  cases a <;> first | cases h | skip
  · cases hu; cases hv; unfold Instr.sameBits; simp
  · cases hu; cases hv; unfold Instr.sameBits; simp
  · cases hu with
    | str h1 =>
      cases hv with
      | str h2 =>
        unfold Instr.sameBits
        exact (MapKept.bytes_beq _ _).2 (ByteArray.ext (Array.toList_inj.1 (h1.trans h2.symm)))
theorem bits_struct {r : Rl} {w : World} {u v : Value} {az : List AV} (h : az.all plainA = true) (hu : VRel r w u (.agg az)) (hv : VRel r w v (.agg az)) : Instr.sameBits 10000 u v = true := by
  cases hu with
  | agg hn h1 =>
    cases hv with
    | agg hm h2 =>
      rename_i xs ys
      unfold Instr.sameBits
      rw [Bool.and_eq_true]
      refine ⟨by simp [hn, hm], ?_⟩
      rw [List.all_eq_true]
      rintro ⟨x, y⟩ hxy
      obtain ⟨i, hi, e⟩ := List.getElem_of_mem hxy
      rw [List.length_zip, Array.length_toList, Array.length_toList] at hi
      rw [List.getElem_zip] at e
      have hia : i < az.length := by omega
      have k1 := h1 i hia
      have k2 := h2 i hia
      have e1 : xs.getD i undef = x := by
        rw [Array.getD_eq_getD_getElem?, Array.getElem?_eq_getElem (by omega)]
        exact (congrArg Prod.fst e)
      have e2 : ys.getD i undef = y := by
        rw [Array.getD_eq_getD_getElem?, Array.getElem?_eq_getElem (by omega)]
        exact (congrArg Prod.snd e)
      rw [e1] at k1; rw [e2] at k2
      exact bits_one _ (List.all_eq_true.1 h _ (List.getElem_mem hia)) k1 k2
theorem KeyLaw.struct {α : Type} [DecidableEq α] {cx : Cx} {kt : TypeId} {fs : Array Field} {parts : α → List AV} (hu : cx.P.underlying kt = some (.struct fs)) (hc : cmpOk cx.P kt = true) (hf : ∀ a, fieldsFit cx.P fs.toList (parts a) = true) (hp : ∀ a, (parts a).all plainA = true)
    (he : ∀ a b, eqFs cx.P fs.toList (parts a) (parts b) = some (decide (a = b))) : KeyLaw cx kt (fun a => .agg (parts a)) where
  check := fun e r w v a h => checkKey_struct e hu (hf a) h
  equal := fun r w u v a b h1 h2 => equal_struct hu hc (he a b) h1 h2
  bits := fun r w u v a h1 h2 => bits_struct (hp a) h1 h2
  slow := ⟨_, hu, fun k e l i => rfl⟩
section
variable {α : Type} [DecidableEq α]
def mapG (key : α → AV) (ks : List α) (val : α → AV) : List (AV × AV) := ks.map fun k => (key k, val k)
theorem KeyLaw.find {cx : Cx} {kt : TypeId} {key : α → AV} (L : KeyLaw cx kt key) {r : Rl} {w : World} {a : α} {k : Value} (hk : VRel r w k (key a)) : ∀ (es : List MapEntry) (ks : List α) (i : Nat), es.length = ks.length → (∀ j (h : j < ks.length), ∃ e, es[j]? = some e ∧ VRel r w e.key (key ks[j])) →
    (a ∉ ks ∧ (Instr.findAsking kt k es i).run cx.P w = .ok none w) ∨ (a ∈ ks ∧ ∃ e, es[ks.idxOf a]? = some e ∧ (Instr.findAsking kt k es i).run cx.P w = .ok (some (i + ks.idxOf a, e.val)) w)
  | [], [], i, _, _ => .inl ⟨by simp, by simp [Instr.findAsking]⟩
  | [], _ :: _, _, hl, _ => by simp at hl
  | _ :: _, [], _, hl, _ => by simp at hl
  | e :: es, x :: ks, i, hl, hr => by
    obtain ⟨e0, q1, q2⟩ := hr 0 (by simp)
    simp only [List.getElem?_cons_zero, Option.some.injEq, List.getElem_cons_zero] at q1 q2
    subst q1
    have heq := L.equal r w k e.key a x hk q2
    by_cases hax : a = x
    · subst hax
      refine .inr ⟨by simp, e, by simp, ?_⟩
      rw [decide_eq_true rfl] at heq
      rw [Instr.findAsking]
      simp only [Sem.run_bind, heq, Result.andThen_ok, if_true, Sem.run_pure, List.idxOf_cons_self, Nat.add_zero]
    · rw [decide_eq_false hax] at heq
      have hf : (Instr.findAsking kt k (e :: es) i).run cx.P w = (Instr.findAsking kt k es (i + 1)).run cx.P w := by
        conv => lhs; rw [Instr.findAsking]
        simp [heq]
      have hx : (x == a) = false := by simpa using Ne.symm hax
      rcases KeyLaw.find L hk es ks (i + 1) (by simpa using hl) (fun j hj => by
        obtain ⟨e', m1, m2⟩ := hr (j + 1) (by simp; omega)
        exact ⟨e', by simpa using m1, by simpa using m2⟩) with ⟨h1, h2⟩ | ⟨h1, e', h2, h3⟩
      · exact .inl ⟨by simp [hax, h1], by rw [hf]; exact h2⟩
      · refine .inr ⟨List.mem_cons_of_mem _ h1, e', ?_, ?_⟩
        · rw [List.idxOf_cons, hx]; simpa using h2
        · rw [hf, h3, List.idxOf_cons, hx]
          simp only [cond_false]
          rw [show i + 1 + ks.idxOf a = i + (ks.idxOf a + 1) by omega]
theorem KeyLaw.findKey {cx : Cx} {kt : TypeId} {key : α → AV} (L : KeyLaw cx kt key) {r : Rl} {w : World} {a : α} {k : Value} (hk : VRel r w k (key a)) {es : Array MapEntry} {clock : Nat} {ks : List α} {val : α → AV} {st : Option (List Nat × Nat)} (hm : MapIs r w es clock (mapG key ks val) st) :
    (a ∉ ks ∧ (Instr.findKey kt k es.toList).run cx.P w = .ok none w) ∨ (a ∈ ks ∧ ∃ e, es[ks.idxOf a]? = some e ∧ VRel r w e.val (val a) ∧ VRel r w e.key (key a) ∧ (Instr.findKey kt k es.toList).run cx.P w = .ok (some (ks.idxOf a, e.val)) w) := by
  have hlen : (mapG key ks val).length = ks.length := by simp [mapG]
  have hat : ∀ j (h : j < ks.length), ∃ e, es[j]? = some e ∧ VRel r w e.key (key ks[j]) ∧ VRel r w e.val (val ks[j]) := by
    intro j hj
    obtain ⟨e, h1, h2, h3⟩ := hm.2.1 j (by omega)
    refine ⟨e, h1, ?_, ?_⟩
    · simpa [mapG] using h2
    · simpa [mapG] using h3
  obtain ⟨d, hd, hs⟩ := L.slow
  have h := L.find hk es.toList ks 0 (by rw [Array.length_toList, hm.1, hlen]) (fun j hj => by
    obtain ⟨e, h1, h2, _⟩ := hat j hj
    exact ⟨e, by rw [Array.getElem?_toList]; exact h1, h2⟩)
  have hfk : (Instr.findKey kt k es.toList).run cx.P w = (Instr.findAsking kt k es.toList 0).run cx.P w := by
    unfold Instr.findKey
    cases hes : es.toList with
    | nil => simp [run_underlying hd, Instr.findNow, Instr.findAsking]
    | cons e l => simp [run_underlying hd, hs]
  rw [hfk]
  rcases h with h | ⟨h1, e, h2, h3⟩
  · exact .inl h
  · refine .inr ⟨h1, e, by rw [← Array.getElem?_toList]; exact h2, ?_, ?_, by rw [h3, Nat.zero_add]⟩
    · obtain ⟨e', m1, m2, m3⟩ := hat _ (List.idxOf_lt_length_of_mem h1)
      rw [Array.getElem?_toList, m1] at h2
      obtain rfl := Option.some.inj h2
      rw [List.getElem_idxOf] at m3; exact m3
    · obtain ⟨e', m1, m2, m3⟩ := hat _ (List.idxOf_lt_length_of_mem h1)
      rw [Array.getElem?_toList, m1] at h2
      obtain rfl := Option.some.inj h2
      rw [List.getElem_idxOf] at m2; exact m2
variable {cx : Cx} {n : Nat} {fr : Fr} {σ : Heap}
theorem OpSpec.entryG {o : Oper} {x : Operand} {id ver mid mver since c i b : Nat} {seen bs : List Nat} {kvs : List (AV × AV)} {p q : AV} (ho : o.op = .entry x) (hx0 : ev cx fr x = .ptr id ver 0) (hσ : σ[id]? = some (ver, some (.miter mid mver since (seen ++ [b]) c)))
    (hσm : σ[mid]? = some (mver, some (.map kvs (some (bs, c))))) (hb : bs[i]? = some b) (hk : kvs[i]? = some (p, q)) : OpSpec cx n fr σ o (.tup [p, q]) σ := by
  have hik : i < kvs.length := by
    rcases Nat.lt_or_ge i kvs.length with h | h
    · exact h
    · rw [List.getElem?_eq_none h] at hk; cases hk
  have h := OpSpec.entry (n := n) ho hx0 hσ hσm hb hik
  rw [List.getElem?_eq_getElem hik] at hk
  rw [Option.some.inj hk] at h
  exact h
end
end Go.Ab
end
section
set_option linter.unusedVariables false
set_option linter.unusedSimpArgs false
namespace Go.Ab
open Go
section
variable {cx : Cx} {n : Nat} {B : Bs} {k : List AI} {Q : Post} {fr : Fr} {σ : Heap}
theorem wpAny_frontG {σ' : Heap} {hp : Array Bool → Heap} {ops : Array Oper} {m : Nat} {vals : List AV} {K : List Nat} {Q' : Exit → Act → World → Prop} (hmN : m ≤ ops.size) (hlen : vals.length = m)
    (hread : ∀ j o t, j < m → ops.toList[j]? = some o → t ∈ slotsOf ops.toList o → readOk ops.toList m j t = true)
    (huniq : ∀ i j d, i < m → j < m → dstOf ops.toList i = some d → dstOf ops.toList j = some d → i = j)
    (hch : ∀ j, m < j → j < ops.size → edge ops.toList j (j - 1) = true) (hlo : ∀ j i, edge ops.toList j i = true → i < j)
    (hcl : m < ops.size → ∀ i, i < m → ∃ k, i < k ∧ k ≤ m ∧ edge ops.toList k i = true)
    (hin : ∀ listed : Array Bool, (∀ j, j < m → Listed listed j) → hp listed = σ') (hdst : ∀ (j : Nat) (o : Oper), j < m → ops.toList[j]? = some o → dstOk n o.dst = true)
    (hstep : ∀ (j : Nat) o v, j < m → ops.toList[j]? = some o → vals[j]? = some v → ∀ listed : Array Bool, listed.size = ops.size → ¬ Listed listed j → (∀ i, edge ops.toList j i = true → Listed listed i) → Down ops.toList listed → StepX cx n ops (hp listed) (hp (listed.setIfInBounds j true)) K (restr ops.toList o (ovl (ops.toList.take j) (vals.take j) fr)) o v)
    (hend : ∀ r a w, Inv cx r σ' w → FRel r w n (ovl (ops.toList.take m) vals fr) a → Dfs B a → Ext B.r B.σ B.w r σ' w → wpList cx.P ops Q' (ops.toList.drop m) a w) :
    ∀ (f : Nat) (listed : Array Bool) (r : Rl) (a : Act) (w : World), listed.size = ops.size → unl listed = f → Down ops.toList listed → (∀ j, m ≤ j → ¬ Listed listed j) →
      FL r w n fr ops.toList m vals listed a → Inv cx r (hp listed) w → Dfs B a → Ext B.r B.σ B.w r (hp listed) w → wpAny cx.P .any ops Q' f listed a w := by
  have ovlN : ∀ i, i ≤ m → ∀ vs, (ovl (ops.toList.take i) (vals.take i) fr).get n = .mark vs → fr.get n = .mark vs := by
    intro i him vs hm
    rcases ovl_get (ops.toList.take i) (vals.take i) fr n (by simp [hlen]; omega) with ⟨i', o', v', k1, k2, k3, k4⟩ | ⟨k1, k2⟩
    · exfalso
      have hi'i : i' < i := by
        rcases Nat.lt_or_ge i' i with h' | h'
        · exact h'
        · rw [List.getElem?_eq_none (by simp; omega)] at k1; cases k1
      rw [List.getElem?_take_of_lt hi'i] at k1 k3
      have hds : dstOk n o'.dst = true := hdst i' o' (by omega) k1
      rw [k2] at hds
      have := blt_lt hds
      omega
    · rw [← k2]; exact hm
  have fin : ∀ (f : Nat) (listed : Array Bool) (r : Rl) (a : Act) (w : World), listed.size = ops.size → unl listed = f → (∀ j, j < m → Listed listed j) → (∀ j, m ≤ j → ¬ Listed listed j) →
      FL r w n fr ops.toList m vals listed a → Inv cx r (hp listed) w → Dfs B a → Ext B.r B.σ B.w r (hp listed) w → wpAny cx.P .any ops Q' f listed a w := by
    intro f listed r a w hs hf hall hno hfl hi hd hx
    rw [hin _ hall] at hi hx
    have hcount : unl listed + m = ops.size := by
      have hl : listed.toList = List.replicate m true ++ List.replicate (ops.size - m) false := by
        apply List.ext_getElem
        · simp; omega
        · intro j h1 h2
          have hj : j < listed.size := by simpa using h1
          have h3 : listed.getD j false = listed.toList[j] := by simp [Array.getD_eq_getD_getElem?, hj]
          by_cases hjm : j < m
          · rw [List.getElem_append_left (by simpa using hjm), List.getElem_replicate, ← h3]; exact hall j hjm
          · rw [List.getElem_append_right (by simp; omega), List.getElem_replicate, ← h3]
            have := hno j (by omega)
            unfold Listed at this
            simpa using this
      unfold unl
      rw [hl, List.countP_append, List.countP_replicate, List.countP_replicate]
      simp; omega
    refine wpAny_tail hch hlo f m listed a w (by omega) (Nat.le_refl m) hs (fun i hi' => ⟨fun h => ?_, fun h => hall i h⟩) (hend r a w hi ⟨hfl.size, fun t => ?_, fun vs hm => ?_⟩ hd hx)
    case refine_3 =>
      refine hfl.defs vs (ovlN m (Nat.le_refl _) vs ?_)
      rw [show vals.take m = vals from List.take_of_length_le (by omega)]
      exact hm
    · rcases Nat.lt_or_ge i m with h' | h'
      · exact h'
      · exact absurd h (hno i h')
    · rcases ovl_get (ops.toList.take m) vals fr t (by simp [hlen]; omega) with ⟨i, o, v, h1, h2, h3, h4⟩ | ⟨h1, h2⟩
      · rw [h4]
        have him : i < m := by
          rcases Nat.lt_or_ge i m with h' | h'
          · exact h'
          · rw [List.getElem?_eq_none (by simp; omega)] at h1; cases h1
        rw [List.getElem?_take_of_lt him] at h1
        exact hfl.done i t v him (hall i him) (by simp [dstOf, h1, h2]) h3
      · rw [h2]
        refine hfl.rest t (fun j hj _ hdj => ?_)
        obtain ⟨o, ho, hod⟩ := Option.bind_eq_some_iff.1 hdj
        exact h1 j o (by rw [List.getElem?_take_of_lt hj]; exact ho) hod
  intro f
  induction f with
  | zero =>
    intro listed r a w hs hf hdn hno hfl hi hd hx
    refine fin 0 listed r a w hs hf (fun j hj => ?_) hno hfl hi hd hx
    rcases hb : listed.getD j false with _ | _
    · have := unl_set (by omega) hb
      omega
    · exact hb
  | succ f ih =>
    intro listed r a w hs hf hdn hno hfl hi hd hx
    by_cases hall : ∀ j, j < m → Listed listed j
    · exact fin (f + 1) listed r a w hs hf hall hno hfl hi hd hx
    have hex : ∃ j, j < m ∧ ¬ Listed listed j := by
      apply Classical.byContradiction
      intro h
      exact hall (fun j hj => Classical.byContradiction fun hl => h ⟨j, hj, hl⟩)
    refine ⟨fun h0 => ?_, fun i hir => ?_⟩
    · obtain ⟨j, h1, h2, h3⟩ := exists_least m hex
      have hjr : j ∈ Region.ready .any ops listed := by
        refine mem_ready.2 ⟨?_, ops[j]'(by omega), Array.getElem?_eq_getElem _, fun e he hb => ?_⟩
        · rw [listed_true (by omega)]; simpa [Listed] using h2
        · have h4 : e.on < j := hlo j e.on (edge_iff.2 ⟨ops[j]'(by omega), Array.getElem?_eq_getElem _, e, he, hb, rfl⟩)
          exact Classical.byContradiction fun h5 => h3 e.on h4 h5
      rw [h0] at hjr; cases hjr
    · obtain ⟨h0, o, ho, hedges⟩ := mem_ready.1 hir
      have hilt := (Array.getElem?_eq_some_iff.1 ho).1
      rw [listed_true (by omega)] at h0
      have hed : ∀ j, edge ops.toList i j = true → Listed listed j := by
        intro j hj
        obtain ⟨o', ho', e, he, hb, hon⟩ := edge_iff.1 hj
        rw [ho] at ho'; cases ho'
        rw [← hon]; exact hedges e he hb
      have him : i < m := by
        rcases Nat.lt_or_ge i m with h' | h'
        · exact h'
        · exfalso
          rcases Nat.eq_or_lt_of_le h' with h'' | h''
          · subst h''
            refine hall (fun j hj => ?_)
            have key : ∀ d j, d + j = m → j < m → Listed listed j := by
              intro d
              induction d using Nat.strongRecOn with
              | _ d ihd =>
                intro j hdj hj
                obtain ⟨k, h1, h2, h3⟩ := hcl hilt j hj
                rcases Nat.eq_or_lt_of_le h2 with h4 | h4
                · subst h4; exact hed j h3
                · exact hdn k j (ihd (m - k) (by omega) k (by omega) h4) h3
            exact key (m - j) j (by omega) hj
          · exact hno (i - 1) (by omega) (hed _ (hch i h'' hilt))
      have hol : ops.toList[i]? = some o := by simpa using ho
      obtain ⟨v, hv⟩ : ∃ v, vals[i]? = some v := ⟨vals[i]'(by omega), List.getElem?_eq_getElem _⟩
      have hX : StepX cx n ops (hp listed) (hp (listed.setIfInBounds i true)) K (restr ops.toList o (ovl (ops.toList.take i) (vals.take i) fr)) o v :=
        hstep i o v him hol hv listed hs (by simp [Listed, h0]) hed hdn
      obtain ⟨hdstI, hst⟩ := hX
      have hnl : ¬ Listed listed i := by simp [Listed, h0]
      have hfr : FRel r w n (restr ops.toList o (ovl (ops.toList.take i) (vals.take i) fr)) a := by
        refine ⟨hfl.size, fun t => ?_, fun vs hm => ?_⟩
        case refine_2 =>
          unfold restr at hm
          rcases restr_get (slotsOf ops.toList o) (ovl (ops.toList.take i) (vals.take i) fr) n with h | ⟨h1, h2⟩
          · rw [h] at hm; cases hm
          · rw [h2] at hm
            exact hfl.defs vs (ovlN i (by omega) vs hm)
        unfold restr
        rcases restr_get (slotsOf ops.toList o) (ovl (ops.toList.take i) (vals.take i) fr) t with h | ⟨h1, h2⟩
        · rw [h]; exact .top
        · rw [h2]
          have hro := hread i o t him hol h1
          have hrd : ∀ i', i' < m → dstOf ops.toList i' = some t → (i' < i → edge ops.toList i i' = true) ∧ (i < i' → edge ops.toList i' i = true) := by
            intro i' hi' hd'
            have := allB_mem hro _ (List.mem_map.2 ⟨i', List.mem_range.2 hi', rfl⟩)
            rw [eqDst_iff.2 hd'] at this
            simp only at this
            constructor
            · intro hlt
              rw [lt_blt hlt] at this
              exact this
            · intro hlt
              rw [show Nat.blt i' i = false by cases hbb : Nat.blt i' i with | false => rfl | true => (have := blt_lt hbb; omega), show Nat.beq i' i = false by cases hbb : Nat.beq i' i with | false => rfl | true => (have := Nat.eq_of_beq_eq_true hbb; omega)] at this
              exact this
          rcases ovl_get (ops.toList.take i) (vals.take i) fr t (by simp [hlen]; omega) with ⟨i', o', v', k1, k2, k3, k4⟩ | ⟨k1, k2⟩
          · rw [k4]
            have hi'i : i' < i := by
              rcases Nat.lt_or_ge i' i with h' | h'
              · exact h'
              · rw [List.getElem?_eq_none (by simp; omega)] at k1; cases k1
            rw [List.getElem?_take_of_lt hi'i] at k1 k3
            have hd' : dstOf ops.toList i' = some t := by simp only [dstOf, k1, Option.bind_some, k2]
            exact hfl.done i' t v' (by omega) (hed _ ((hrd i' (by omega) hd').1 hi'i)) hd' k3
          · rw [k2]
            refine hfl.rest t (fun j hj hlj hdj => ?_)
            rcases Nat.lt_trichotomy j i with h' | h' | h'
            · obtain ⟨oj, hoj, hod⟩ := Option.bind_eq_some_iff.1 hdj
              exact k1 j oj (by rw [List.getElem?_take_of_lt h']; exact hoj) hod
            · subst h'; exact hnl hlj
            · exact hnl (hdn j i hlj ((hrd j hj hdj).2 h'))
      have next : ∀ (r' : Rl) (w' : World) (v' : Value), VRel r' w' v' v → Inv cx r' (hp (listed.setIfInBounds i true)) w' → Ext r (hp listed) w r' (hp (listed.setIfInBounds i true)) w' → wpAny cx.P .any ops Q' f (listed.setIfInBounds i true) (a.put o.dst v') w' := by
        intro r' w' v' hv' hi' hx'
        have hun := unl_set (by omega) h0
        refine ih _ r' _ w' (by simpa using hs) (by omega) (fun j l hj he => ?_) (fun j hj hl => ?_) ⟨?_, fun j d u hj hl hdj hu => ?_, fun t ht => ?_, fun vs hm => by rw [Act.put_defers]; exact (hfl.defs vs hm).mono (hx'.grow hi)⟩ hi' (hd.put _ _) (hx.trans hx')
        · rw [listed_set (by omega)] at hj ⊢
          rcases hj with rfl | hj
          · exact .inr (hed l he)
          · exact .inr (hdn j l hj he)
        · rw [listed_set (by omega)] at hl
          rcases hl with rfl | hl
          · omega
          · exact hno j hj hl
        · cases hod : o.dst <;> simp [Act.put, hfl.size]
        · have hg := hx'.grow hi
          rw [listed_set (by omega)] at hl
          by_cases hji : j = i
          · subst hji
            rw [hv] at hu; cases hu
            have hod : o.dst = some d := by simpa [dstOf, hol] using hdj
            rw [hod]
            rw [hod] at hdstI
            simp only [Act.put]
            rw [getD_setIfInBounds (by rw [hfl.size]; exact blt_lt hdstI), if_pos rfl]
            exact hv'
          · have hl' := hl.resolve_left hji
            have hold := (hfl.done j d u hj hl' hdj hu).mono hg
            cases hod : o.dst with
            | none => exact hold
            | some d' =>
              have hne : d' ≠ d := fun e => hji (huniq j i d hj him hdj (by subst e; simp [dstOf, hol, hod]))
              rw [hod] at hdstI
              simp only [Act.put]
              rw [getD_setIfInBounds (by rw [hfl.size]; exact blt_lt hdstI), if_neg hne]
              exact hold
        · have hg := hx'.grow hi
          have hold := (hfl.rest t (fun j hj hl => ht j hj ((listed_set (by omega)).2 (.inr hl)))).mono hg
          have hti := ht i him ((listed_set (by omega)).2 (.inl rfl))
          cases hod : o.dst with
          | none => exact hold
          | some d' =>
            have hne : d' ≠ t := fun e => hti (by subst e; simp [dstOf, hol, hod])
            rw [hod] at hdstI
            simp only [Act.put]
            rw [getD_setIfInBounds (by rw [hfl.size]; exact blt_lt hdstI), if_neg hne]
            exact hold
      unfold wpOp
      simp only [ho]
      rcases hst with ⟨hg, rfl, hσ⟩ | ⟨hg, hgo⟩
      · rw [guardA_wanted (cx := cx) hfr hg]
        simp only [Bool.false_eq_true, if_false]
        exact next r w undef (.tup rfl (fun i h => absurd h (by simp))) (by rw [hσ]; exact hi) (by rw [hσ]; exact Ext.refl _ _ _)
      · rw [guardA_wanted (cx := cx) hfr hg]
        simp only [if_true]
        refine .inl (Oper.wp_mono (fun a' w' h => ?_) (hgo r a w hi hfr Q'))
        obtain ⟨r', v', rfl, h2, h3, h4⟩ := h
        exact next r' w' v' h2 h3 h4
def hp2 (σ σ1 σ2 : Heap) (j1 j2 : Nat) (listed : Array Bool) : Heap := bif listed.getD j2 false then σ2 else bif listed.getD j1 false then σ1 else σ
theorem OpSpec.aop {σ' : Heap} {o : Oper} {C : List Prop} {v : AV} (h : aOp cx [] o.dst o.op fr σ = some (C, v, σ')) (hC : AllP C) : OpSpec cx n fr σ o v σ' := fun r a w hi hf => aOp_run hi hf h hC
end
end Go.Ab
end
section
set_option linter.unusedVariables false
set_option linter.unusedSimpArgs false
namespace Go.Ab
open Go
section
variable {cx : Cx} {n : Nat} {B : Bs} {k : List AI} {Q : Post} {fr : Fr} {σ : Heap}
theorem OpSpec.wk {o : Oper} {v v' : AV} {σ' : Heap} (h : OpSpec cx n fr σ o v σ') (hw : ∀ r w x, VRel r w x v → VRel r w x v') : OpSpec cx n fr σ o v' σ' := by
  intro r a w hi hf
  obtain ⟨r', w', x, h1, h2, h3⟩ := h r a w hi hf
  exact ⟨r', w', x, h1, hw _ _ _ h2, h3⟩
theorem OpSpec.loadE {o : Oper} {t : TypeId} {a : Operand} {m id ver off : Nat} {cs : List AV} {g : Tag} {x : AV} (ho : o.op = .load t a) (ha : aggT cx.P t = some false) (hm : szOf cx.P t = some m) (hea : ev cx fr a = .eptr id ver off)
    (hσ : σ[id]? = some (ver, some (.cells cs g))) (hx : (cs.drop off)[0]? = some x) : OpSpec cx n fr σ o x σ := by
  intro r ac w hi hf
  refine loadA_run (C := [ver = ver, (cs.drop off)[0]? = some x]) hi hf ?_ ⟨rfl, hx, trivial⟩
  rw [ho]
  simp only [loadA, ha, hm, hea, boxAt, hσ, loadA.loadC]
theorem firstDead_no : ∀ (σ : Heap) (k : Nat), (∀ e ∈ σ, ∃ x, e.2 = some x) → firstDead σ k = none
  | [], _, _ => rfl
  | (v, y) :: r, k, h => by
    obtain ⟨x, hx⟩ := h (v, y) (List.mem_cons_self ..)
    have hx : y = some x := hx
    subst hx
    exact firstDead_no r (k + 1) (fun e he => h e (List.mem_cons_of_mem _ he))
end
end Go.Ab
end
section
set_option linter.unusedVariables false
set_option linter.unusedSimpArgs false
namespace Go.Ab
open Go
theorem Inv.del {cx : Cx} {r : Rl} {σ : Heap} {w : World} {id ver b o n i sz : Nat} {cs : List AV} {ty : Option TypeId} {zs : List Value} (hi : Inv cx r σ w) (hσ : σ[id]? = some (ver, some (.cells cs ⟨false, ty⟩))) (hρ : r.ρ id ver = some (b, o)) (hcs : cs.length = n * sz) (hin : i < n) (hz : zs.length = sz) (hne : cs ≠ []) :
    ∃ vals : List Value, vals.length = n * sz ∧ (∀ k, k < vals.length → w.cell? ⟨b, o + k, none⟩ = vals[k]?) ∧ (∀ k, k < vals.length → w.frozen? ⟨b, o + k, none⟩ = false) ∧ (∀ v ∈ vals, v.oneCell' = true) ∧
      ∀ w2, w2 = (w.drew.setCells b (o + i * sz) (vals.drop ((i + 1) * sz))).setCells b (o + (n - 1) * sz) zs →
        ∃ r', Inv cx r' (σ.set id (ver, some (.cells (cs.take (i * sz) ++ cs.drop ((i + 1) * sz)) ⟨false, ty⟩))) w2 ∧ Ext r σ w r' (σ.set id (ver, some (.cells (cs.take (i * sz) ++ cs.drop ((i + 1) * sz)) ⟨false, ty⟩))) w2 ∧ r'.ρ id ver = some (b, o) ∧
          ∀ c t f, w.heap[b]? = some (.cells c t f) → ∃ c' f', w2.heap[b]? = some (.cells c' t f') ∧ c'.size = c.size := by
  have hbx : boxAt σ id = some (ver, cs, ⟨false, ty⟩) := by simp [boxAt, hσ]
  obtain ⟨c, t, lo, hi', q1, q2, q3, q4, q5⟩ := hi.cells hbx rfl hρ
  have hid : id < σ.length := by
    rcases Nat.lt_or_ge id σ.length with h | h
    · exact h
    · rw [List.getElem?_eq_none h] at hσ; cases hσ
  have hlast : o + cs.length ≤ c.size := by
    have hl : 0 < cs.length := List.length_pos_iff.2 hne
    obtain ⟨v, h1, _⟩ := q2 (cs.length - 1) (by omega)
    have := (Array.getElem?_eq_some_iff.1 h1).1
    omega
  have hfit : i * sz + (n - (i + 1)) * sz + sz = n * sz := by
    rw [← Nat.add_mul, show i + (n - (i + 1)) = n - 1 by omega]
    have : (n - 1 + 1) * sz = n * sz := by rw [show n - 1 + 1 = n by omega]
    rw [← this, Nat.add_mul, Nat.one_mul]
  have hn1 : (n - 1) * sz + sz = n * sz := by
    have : (n - 1 + 1) * sz = n * sz := by rw [show n - 1 + 1 = n by omega]
    rw [← this, Nat.add_mul, Nat.one_mul]
  have hi1 : (i + 1) * sz = i * sz + sz := by rw [Nat.add_mul, Nat.one_mul]
  refine ⟨(c.toList.drop o).take (n * sz), ?_, ?_, ?_, ?_, ?_⟩
  · rw [List.length_take, List.length_drop, Array.length_toList]; omega
  · intro k hk
    rw [List.length_take, List.length_drop, Array.length_toList] at hk
    have hlt : o + k < c.size := by omega
    simp only [World.cell?, q1]
    rw [List.getElem?_take_of_lt (by omega), List.getElem?_drop, Array.getElem?_toList]
    try rfl
  · intro k hk
    rw [List.length_take, List.length_drop, Array.length_toList] at hk
    have hlt : o + k < c.size := by omega
    simp only [World.frozen?, q1]
    by_cases hf : lo ≤ o + k ∧ o + k < hi'
    · have := (q4 _ hf.1 hf.2 hlt).1; cases this
    · simp only [Bool.and_eq_false_iff, decide_eq_false_iff_not]
      by_cases h1 : lo ≤ o + k
      · right; intro h2; exact hf ⟨h1, h2⟩
      · left; exact h1
  · intro v hv
    obtain ⟨k, hk, rfl⟩ := List.getElem_of_mem hv
    have hk0 := hk
    rw [List.length_take, List.length_drop, Array.length_toList] at hk
    obtain ⟨u, h1, h2⟩ := q2 k (by omega)
    rw [List.getElem_take, List.getElem_drop, Array.getElem_toList]
    rw [Array.getElem?_eq_getElem (by omega)] at h1
    simp only [Option.some.injEq] at h1
    rw [h1]
    exact h2.one (q3 _ (List.getElem_mem _))
  · intro w2 hw2
    generalize hvals : (c.toList.drop o).take (n * sz) = vals at hw2
    have hvl : vals.length = n * sz := by rw [← hvals, List.length_take, List.length_drop, Array.length_toList]; omega
    have hvg : ∀ k, k < n * sz → vals[k]? = c[o + k]? := fun k hk => by
      rw [← hvals, List.getElem?_take_of_lt hk, List.getElem?_drop, Array.getElem?_toList]
    have hnl : (vals.drop ((i + 1) * sz)).length = (n - (i + 1)) * sz := by rw [List.length_drop, hvl]; omega
    have hq1 : w.drew.heap[b]? = some (.cells c t (lo, hi')) := q1
    obtain ⟨c1, h1, h2, h3, h4, h5, h6, h7, h8⟩ := setCells_heap b (vals.drop ((i + 1) * sz)) (o + i * sz) w.drew c t (lo, hi') hq1 (by rw [hnl]; omega)
    obtain ⟨c2, k1, k2, k3, k4, k5, k6, k7, k8⟩ := setCells_heap b zs (o + (n - 1) * sz) (w.drew.setCells b (o + i * sz) (vals.drop ((i + 1) * sz))) c1 t (lo, hi') h1 (by rw [hz, h2]; omega)
    rw [← hw2] at k1 k4 k5 k6 k7 k8
    have hlen : (cs.take (i * sz) ++ cs.drop ((i + 1) * sz)).length = (n - 1) * sz := by rw [List.length_append, List.length_take, List.length_drop]; omega
    have hu := hi.update (σ' := σ.set id (ver, some (.cells (cs.take (i * sz) ++ cs.drop ((i + 1) * sz)) ⟨false, ty⟩))) (id := id) (ver := ver) (b := b) (o := o) (x := .cells (cs.take (i * sz) ++ cs.drop ((i + 1) * sz)) ⟨false, ty⟩)
      (w' := w2) (by simp [hid]) (fun j hj => by rw [List.getElem?_set, if_neg (Ne.symm hj)])
      (fun c2 y hy => by rw [hσ] at hy; simp only [Option.some.injEq, Prod.mk.injEq] at hy; exact .inr ⟨hy.1.symm, hρ⟩) (.inr ⟨ver, _, o, hσ, hρ⟩) (fun k hk hkb => (k4 k hkb).trans (h4 k hkb)) (by rw [k5, h5]; exact Nat.le_refl _)
      (fun c3 t2 f2 hc2 => by rw [q1] at hc2; simp only [Option.some.injEq, Obj.cells.injEq] at hc2; obtain ⟨rfl, rfl, rfl⟩ := hc2; exact ⟨c2, _, k1, k2.trans h2⟩) (k6.trans h6) (k7.trans h7) (k8.trans h8)
      (fun g => by
        refine ⟨c2, t, lo, hi', k1, fun k hk => ?_, fun y hy => ?_, fun k a1 a2 a3 => ?_, q5⟩
        · have hk0 := hk
          rw [hlen] at hk
          have hc2 : c2[o + k]? = if i * sz ≤ k then vals[k + sz]? else c[o + k]? := by
            rw [k3, if_neg (by omega), h3]
            by_cases hik : i * sz ≤ k
            · rw [if_pos (by rw [hnl]; omega), if_pos hik, List.getElem?_drop]
              congr 1; omega
            · rw [if_neg (by omega), if_neg hik]
          by_cases hik : i * sz ≤ k
          · rw [if_pos hik, hvg (k + sz) (by omega)] at hc2
            obtain ⟨u, e1, e2⟩ := q2 (k + sz) (by omega)
            refine ⟨u, by rw [hc2, e1], ?_⟩
            have : (cs.take (i * sz) ++ cs.drop ((i + 1) * sz))[k] = cs[k + sz]'(by omega) := by
              rw [List.getElem_append_right (by rw [List.length_take]; omega), List.getElem_drop]
              congr 1
              rw [List.length_take]; omega
            rw [this]
            exact e2.mono g
          · rw [if_neg hik] at hc2
            obtain ⟨u, e1, e2⟩ := q2 k (by omega)
            refine ⟨u, by rw [hc2, e1], ?_⟩
            have : (cs.take (i * sz) ++ cs.drop ((i + 1) * sz))[k] = cs[k]'(by omega) := by
              rw [List.getElem_append_left (by rw [List.length_take]; omega), List.getElem_take]
            rw [this]
            exact e2.mono g
        · rcases List.mem_append.1 hy with h | h
          · exact q3 y (List.mem_of_mem_take h)
          · exact q3 y (List.mem_of_mem_drop h)
        · have hlt : k < c.size := by rw [k2, h2] at a3; exact a3
          have := (q4 k a1 a2 hlt).1
          cases this)
    refine ⟨_, hu.1, hu.2, by simp [Rl.bind], fun c3 t3 f3 h3 => ?_⟩
    rw [q1] at h3
    cases h3
    exact ⟨c2, _, k1, k2.trans h2⟩
end Go.Ab
end
section
set_option linter.unusedVariables false
set_option linter.unusedSimpArgs false
namespace Go.Ab
open Go
section
variable {cx : Cx} {n : Nat} {B : Bs} {k : List AI} {Q : Post} {fr : Fr} {σ : Heap}
def Alive (σ : Heap) : Prop := ∀ e ∈ σ, ∃ x, e.2 = some x
theorem Alive.app {σ : Heap} (h : Alive σ) (v : Nat) (x : Box) : Alive (σ ++ [(v, some x)]) := fun e he => by
  rcases List.mem_append.1 he with he | he
  · exact h e he
  · rw [List.mem_singleton.1 he]; exact ⟨x, rfl⟩
theorem Alive.set {σ : Heap} (h : Alive σ) (i v : Nat) (x : Box) : Alive (σ.set i (v, some x)) := fun e he => by
  rcases List.mem_or_eq_of_mem_set he with he | he
  · exact h e he
  · rw [he]; exact ⟨x, rfl⟩
theorem Alive.set' {σ : Heap} (h : Alive σ) {y : Nat × Option Box} (hy : ∃ x, y.2 = some x) (i : Nat) : Alive (σ.set i y) := fun e he => by
  rcases List.mem_or_eq_of_mem_set he with he | he
  · exact h e he
  · rw [he]; exact hy
theorem Alive.alloc {σ : Heap} (h : Alive σ) (x : Box) : allocH σ x = (σ.length, 0, σ ++ [(0, some x)]) := by unfold allocH; rw [firstDead_no σ 0 h]
theorem OpSpec.loadP {o : Oper} {t : TypeId} {a : Operand} {m id ver off : Nat} {cs : List AV} {g : Tag} {x : AV} (ho : o.op = .load t a) (ha : aggT cx.P t = some false) (hm : szOf cx.P t = some m) (hea : ev cx fr a = .ptr id ver off)
    (hσ : σ[id]? = some (ver, some (.cells cs g))) (hx : (cs.drop off)[0]? = some x) : OpSpec cx n fr σ o x σ := by
  intro r ac w hi hf
  refine loadA_run (C := [ver = ver, (cs.drop off)[0]? = some x]) hi hf ?_ ⟨rfl, hx, trivial⟩
  rw [ho]
  simp only [loadA, ha, hm, hea, boxAt, hσ, loadA.loadC]
theorem OpSpec.loadEA {o : Oper} {t : TypeId} {a : Operand} {m id ver off : Nat} {cs : List AV} {g : Tag} {x : AV} (ho : o.op = .load t a) (ha : aggT cx.P t = some true) (hm : szOf cx.P t = some m) (hea : ev cx fr a = .eptr id ver off)
    (hσ : σ[id]? = some (ver, some (.cells cs g))) (hl : m ≤ (cs.drop off).length) (hx : x = .agg ((cs.drop off).take m)) : OpSpec cx n fr σ o x σ := by
  intro r ac w hi hf
  refine loadA_run (C := [ver = ver, m ≤ (cs.drop off).length, x = .agg ((cs.drop off).take m)]) hi hf ?_ ⟨rfl, hl, hx, trivial⟩
  rw [ho]
  simp only [loadA, ha, hm, hea, boxAt, hσ, loadA.loadC]
theorem OpSpec.loadPA {o : Oper} {t : TypeId} {a : Operand} {m id ver off : Nat} {cs : List AV} {g : Tag} {x : AV} (ho : o.op = .load t a) (ha : aggT cx.P t = some true) (hm : szOf cx.P t = some m) (hea : ev cx fr a = .ptr id ver off)
    (hσ : σ[id]? = some (ver, some (.cells cs g))) (hl : m ≤ (cs.drop off).length) (hx : x = .agg ((cs.drop off).take m)) : OpSpec cx n fr σ o x σ := by
  intro r ac w hi hf
  refine loadA_run (C := [ver = ver, m ≤ (cs.drop off).length, x = .agg ((cs.drop off).take m)]) hi hf ?_ ⟨rfl, hl, hx, trivial⟩
  rw [ho]
  simp only [loadA, ha, hm, hea, boxAt, hσ, loadA.loadC]
theorem OpSpec.storeP {o : Oper} {t : TypeId} {a x : Operand} {m id ver off : Nat} {cs : List AV} {gT : Option TypeId} {y : AV} {σ' : Heap} (ho : o.op = .store t a x) (hm : szOf cx.P t = some m) (hea : ev cx fr a = .ptr id ver off) (hx : ev cx fr x = y) (hyc : y.cells.length = m) (hy : allOne y.cells = true)
    (hσ : σ[id]? = some (ver, some (.cells cs ⟨false, gT⟩))) (hoff : off + m ≤ cs.length) (hσ' : σ' = σ.set id (ver, some (.cells (setRange cs off y.cells) ⟨false, gT⟩))) : OpSpec cx n fr σ o (.tup []) σ' := by
  subst hσ'
  refine OpSpec.store (C := [y.cells.length = m, allOne y.cells = true, ver = ver, off + m ≤ cs.length]) ?_ ⟨hyc, hy, rfl, hoff, trivial⟩
  rw [ho]
  simp only [storeA, hm, hea, hσ, hx]
theorem OpSpec.allocE {o : Oper} {e : TypeId} {z : List AV} {g : Option TypeId} (ho : o.op = .alloc e) (hz : zeroA cx.P e = some z) (h1 : allOne z = true) (hg : tyS cx.P e = g) (hσ : Alive σ) : OpSpec cx n fr σ o (.ptr σ.length 0 0) (σ ++ [(0, some (.cells z ⟨false, g⟩))]) := by
  refine OpSpec.aop (C := []) ?_ trivial
  rw [ho]
  simp only [aOp, hz, h1, cond_true, hg, hσ.alloc]
theorem OpSpec.boxE {o : Oper} {e : TypeId} {x : Operand} {y : AV} {g : Option TypeId} (ho : o.op = .box e x) (hx : ev cx fr x = y) (h1 : allOne y.cells = true) (hg : tyS cx.P e = g) (hσ : Alive σ) : OpSpec cx n fr σ o (.ptr σ.length 0 0) (σ ++ [(0, some (.cells y.cells ⟨false, g⟩))]) := by
  refine OpSpec.aop (C := []) ?_ trivial
  rw [ho]
  simp only [aOp, hx, h1, cond_true, hg, hσ.alloc]
theorem OpSpec.appendX {o : Oper} {s x : Operand} {t u : TypeId} {e sz by_ id ver off len : Nat} {st fl : Bool} {cs : List AV} {y : AV} {σ' : Heap} (ho : o.op = .call { callee := .builtin .append, args := #[s, x], argTypes := #[t, u] }) (hel : elemInfo cx.P t = some (e, sz, by_)) (hnt : notInt cx.P u = true)
    (hs : ev cx fr s = .ms id ver off len sz false) (hx : ev cx fr x = .sl st fl sz [y]) (hy : ∀ z ∈ flatA sz [y], z.one = true) (hσ : σ[id]? = some (ver, some (.cells cs ⟨false, none⟩))) (hl : off + len * sz = cs.length) (hb : (len + 1) * by_ ≤ 140737488355328) (hb2 : len + 1 ≤ 9223372036854775807)
    (hσ' : σ' = σ.set id (ver + 1, some (.cells (cs.drop off ++ flatA sz [y]) ⟨false, none⟩))) : OpSpec cx n fr σ o (.ms id (ver + 1) 0 (len + 1) sz false) σ' := by
  subst hσ'
  refine OpSpec.aop (C := [sz = sz, ∀ z ∈ flatA sz [y], z.one = true] ++ [∀ z ∈ flatA sz [y], z.one = true, ver = ver, sz = sz, off + len * sz = cs.length, (len + [y].length) * by_ ≤ 140737488355328, len + [y].length ≤ 9223372036854775807]) ?_ ⟨rfl, hy, hy, rfl, rfl, hl, hb, hb2, trivial⟩
  rw [ho]
  show aAppend cx.P t u (ev cx fr s) (ev cx fr x) σ = _
  rw [hs, hx]
  unfold aAppend
  rw [hel]
  have ht : tagOn cx.P e off ⟨false, none⟩ = ⟨false, none⟩ := by unfold tagOn; cases off <;> rfl
  simp only [hnt, cond_true, aSrc, hσ, ht, dropA_eq]
  rfl
end
end Go.Ab
end
section
set_option linter.unusedVariables false
set_option linter.unusedSimpArgs false
namespace Go.Ab
open Go
section
variable {cx : Cx} {n : Nat} {B : Bs} {k : List AI} {Q : Post} {fr : Fr} {σ : Heap}
theorem S_shareO {ι : Type} {all : Array Oper} {l : List Oper} {K : List Nat} {k' : List AI} (F : ι → Fr) (σ' : ι → Heap) (I : ι → Prop) (hm : (∀ i fr, I i → Weak fr (F i) → S cx n B (.ops all l K :: k') Q fr (σ' i)) → S cx n B k Q fr σ) (hk : ∀ i, I i → S cx n B (.ops all l K :: k') Q (F i) (σ' i)) : S cx n B k Q fr σ :=
  hm fun i _ hi hw => S_ops_weak hw (hk i hi)
end
end Go.Ab
end
section
set_option linter.unusedVariables false
set_option linter.unusedSimpArgs false
namespace Go.Ab
open Go
def rpLoad (cx : Cx) (fr : Fr) : Op → Bool
  | .load _ a => match ev cx fr a with
    | .rp .. => true
    | _ => false
  | _ => false
def mapLen (cx : Cx) (fr : Fr) : Op → Bool
  | .call { callee := .builtin .len, args := args, .. } => match args.toList with
    | [x] => match ev cx fr x with
      | .map .. => true
      | _ => false
    | _ => false
  | _ => false
def oneZ {α : Type} (cx : Cx) (K : List Nat) (n : Nat) (all : Array Oper) (s : Heap) (o : Oper) (fr : Fr) (rs : List AV) (c : List Prop → AV → List AV → Option α) : Option α :=
  match dstOk n o.dst with
  | false => none
  | true => match guardA all o K fr with
    | none => none
    | some false => c [] (.tup []) rs
    | some true => match callA cx fr o.op with
      | some (f, args) => match rs with
        | x :: rs => c [∃ args', Calc cx f args' x ∧ Frzs s args args'] x rs
        | [] => none
      | none => match heapOp o.op || stopOp o.op || mapLen cx fr o.op with
        | false => match aOp cx [] o.dst o.op fr s with
          | some (C, v, s') => forceV v fun v => c ((s' = s) :: C) v rs
          | none => none
        | true => match rs with
          | [] => none
          | x :: rs => match rpLoad cx fr o.op with
            | true => match loadA cx fr s o.op x with
              | some D => c D x rs
              | none => none
            | false => match idxA cx fr s o.op x with
              | some (D, v) => forceV v fun v => c D v rs
              | none => c [OpSpec cx n fr s o x s] x rs
theorem oneZ_spec {α : Type} {cx : Cx} {n : Nat} {K : List Nat} {all : Array Oper} {s : Heap} {o : Oper} {fr : Fr} {rs : List AV} {c : List Prop → AV → List AV → Option α} {a : α} (h : oneZ cx K n all s o fr rs c = some a) :
    ∃ C v rs', c C v rs' = some a ∧ (AllP C → StepX cx n all s s K fr o v) := by
  unfold oneZ at h
  split at h
  · cases h
  rename_i hd
  split at h
  · cases h
  · rename_i hg
    exact ⟨_, _, _, h, fun _ => ⟨hd, .inl ⟨hg, rfl, rfl⟩⟩⟩
  rename_i hg
  split at h
  · rename_i f args hc
    split at h
    · rename_i x rs'
      refine ⟨_, _, _, h, fun hC => ?_⟩
      obtain ⟨⟨args', h1, h2⟩, _⟩ := hC
      have : oneD cx K n all s o fr [x] = some ([∃ args', Calc cx f args' x ∧ Frzs s args args'], x, []) := by
        unfold oneD
        rw [hd]
        simp only [hg, hc]
      exact (oneD_spec this ⟨⟨args', h1, h2⟩, trivial⟩).x
    · cases h
  · split at h
    · split at h
      · rename_i C v s' ha
        rw [forceV_eq] at h
        refine ⟨_, _, _, h, fun hC => ?_⟩
        obtain ⟨e, hC⟩ := hC
        subst e
        exact opC_step hd hg ha hC
      · cases h
    · split at h
      · cases h
      · rename_i x rs'
        split at h
        · split at h
          · rename_i D hl
            exact ⟨_, _, _, h, fun hC => specC_step hd hg fun r a w hi hf => loadA_run hi hf hl hC⟩
          · cases h
        · split at h
          · rename_i D v hx
            rw [forceV_eq] at h
            exact ⟨_, _, _, h, fun hC => specC_step hd hg fun r a w hi hf => idxA_run hi hf hx hC⟩
          · exact ⟨_, _, _, h, fun hC => specC_step hd hg hC.1⟩
def appK {α : Type} : List Prop → List Prop → (List Prop → α) → α
  | [], D, c => c D
  | x :: r, D, c => appK r D fun l => c (x :: l)
theorem appK_eq {α : Type} : ∀ (C D : List Prop) (c : List Prop → α), appK C D c = c (C ++ D)
  | [], D, c => rfl
  | x :: r, D, c => by rw [appK, appK_eq r]; rfl
def oneX {α : Type} (cx : Cx) (K : List Nat) (n : Nat) (all : Array Oper) (s : Heap) (o : Oper) (fr : Fr) (rs : List AV) (b : Bool) (c : List Prop → AV → List AV → Option α) : Option α :=
  oneZ cx K n all s o fr rs fun C v rs => match b with
    | true => c [] v rs
    | false => c C v rs
theorem oneX_spec {α : Type} {cx : Cx} {n : Nat} {K : List Nat} {all : Array Oper} {s : Heap} {o : Oper} {fr : Fr} {rs : List AV} {b : Bool} {c : List Prop → AV → List AV → Option α} {a : α} (h : oneX cx K n all s o fr rs b c = some a) :
    ∃ C v rs', c C v rs' = some a ∧ (b = false → AllP C → StepX cx n all s s K fr o v) := by
  obtain ⟨C, v, rs', h1, h2⟩ := oneZ_spec h
  cases b with
  | true => exact ⟨_, _, _, h1, fun h => by cases h⟩
  | false => exact ⟨_, _, _, h1, fun _ => h2⟩
def runZ {α : Type} (cx : Cx) (K : List Nat) (n : Nat) (all : Array Oper) (ops : List Oper) (s : Heap) (J X : List Nat) : List Oper → Nat → Fr → List AV → (List Prop → List AV → Fr → Option α) → Option α
  | [], i, fr, rs, c => c [] [] fr
  | o :: l, i, fr, rs, c => match memN i J with
    | true => match rs with
      | x :: rs => runZ cx K n all ops s J X l (i + 1) (setA o.dst x fr) rs fun D vs fr' => c D (x :: vs) fr'
      | [] => none
    | false => oneX cx K n all s o (restr ops o fr) rs (memN i X) fun C v rs => match isGuard ops i with
      | false => runZ cx K n all ops s J X l (i + 1) (setA o.dst v fr) rs fun D vs fr' => appK C D fun D => c D (v :: vs) fr'
      | true => match v with
        | .bool b => match rs with
          | .bool t :: rs => runZ cx K n all ops s J X l (i + 1) (setA o.dst (.bool t) fr) rs fun D vs fr' => appK C ((b = t) :: D) fun D => c D (.bool t :: vs) fr'
          | _ => none
        | .tup us => runZ cx K n all ops s J X l (i + 1) (setA o.dst (.tup us) fr) rs fun D vs fr' => appK C D fun D => c D (.tup us :: vs) fr'
        | _ => none
theorem runZ_spec {α : Type} {cx : Cx} {n : Nat} {K : List Nat} {all : Array Oper} {ops : List Oper} {s : Heap} {J X : List Nat} {a : α} : ∀ (l : List Oper) (i : Nat) (fr : Fr) (rs : List AV) (c : List Prop → List AV → Fr → Option α), runZ cx K n all ops s J X l i fr rs c = some a →
    ∃ C vals fr', c C vals fr' = some a ∧ vals.length = l.length ∧ fr' = ovl l vals fr ∧ (AllP C → ∀ (j : Nat) (o : Oper) (v : AV), l[j]? = some o → vals[j]? = some v → i + j ∉ J → i + j ∉ X → StepX cx n all s s K (restr ops o (ovl (l.take j) (vals.take j) fr)) o v)
  | [], i, fr, rs, c, h => ⟨_, _, _, h, rfl, rfl, fun _ j o v h => by simp at h⟩
  | o :: l, i, fr, rs, c, h => by
    unfold runZ at h
    split at h
    · rename_i hb
      have hij : i ∈ J := memN_iff.1 hb
      split at h
      · rename_i x rs'
        obtain ⟨D, vs, fr', h1, h2, h3, h4⟩ := runZ_spec l _ _ _ _ h
        refine ⟨_, _, _, h1, by simp [h2], by rw [h3]; rfl, fun hD j oj vj hj hvj hne hnx => ?_⟩
        cases j with
        | zero => exact absurd hij hne
        | succ j =>
          simp only [List.getElem?_cons_succ] at hj hvj
          exact h4 hD j oj vj hj hvj (by rw [show i + 1 + j = i + (j + 1) by omega]; exact hne) (by rw [show i + 1 + j = i + (j + 1) by omega]; exact hnx)
      · cases h
    · obtain ⟨C, v, rs', h1, h2⟩ := oneX_spec h
      have h2 : i ∉ X → AllP C → StepX cx n all s s K (restr ops o fr) o v := fun hnx => h2 (by
        cases hb : memN i X with
        | false => rfl
        | true => exact absurd (memN_iff.1 hb) hnx)
      split at h1
      · obtain ⟨D, vs, fr', k1, k2, k3, k4⟩ := runZ_spec l _ _ _ _ h1
        rw [appK_eq] at k1
        refine ⟨_, _, _, k1, by simp [k2], by rw [k3]; rfl, fun hD j oj vj hj hvj hne hnx => ?_⟩
        obtain ⟨hC, hD⟩ := AllP_append hD
        cases j with
        | zero =>
          simp only [List.getElem?_cons_zero, Option.some.injEq] at hj hvj
          subst hj; subst hvj
          exact h2 hnx hC
        | succ j =>
          simp only [List.getElem?_cons_succ] at hj hvj
          exact k4 hD j oj vj hj hvj (by rw [show i + 1 + j = i + (j + 1) by omega]; exact hne) (by rw [show i + 1 + j = i + (j + 1) by omega]; exact hnx)
      · split at h1
        · rename_i b
          split at h1
          · rename_i t rs''
            obtain ⟨D, vs, fr', k1, k2, k3, k4⟩ := runZ_spec l _ _ _ _ h1
            rw [appK_eq] at k1
            refine ⟨_, _, _, k1, by simp [k2], by rw [k3]; rfl, fun hD j oj vj hj hvj hne hnx => ?_⟩
            obtain ⟨hC, hb, hD2⟩ := AllP_append hD
            subst hb
            cases j with
            | zero =>
              simp only [List.getElem?_cons_zero, Option.some.injEq] at hj hvj
              subst hj; subst hvj
              exact h2 hnx hC
            | succ j =>
              simp only [List.getElem?_cons_succ] at hj hvj
              exact k4 hD2 j oj vj hj hvj (by rw [show i + 1 + j = i + (j + 1) by omega]; exact hne) (by rw [show i + 1 + j = i + (j + 1) by omega]; exact hnx)
          · cases h1
        · rename_i us
          obtain ⟨D, vs, fr', k1, k2, k3, k4⟩ := runZ_spec l _ _ _ _ h1
          rw [appK_eq] at k1
          refine ⟨_, _, _, k1, by simp [k2], by rw [k3]; rfl, fun hD j oj vj hj hvj hne hnx => ?_⟩
          obtain ⟨hC, hD⟩ := AllP_append hD
          cases j with
          | zero =>
            simp only [List.getElem?_cons_zero, Option.some.injEq] at hj hvj
            subst hj; subst hvj
            exact h2 hnx hC
          | succ j =>
            simp only [List.getElem?_cons_succ] at hj hvj
            exact k4 hD j oj vj hj hvj (by rw [show i + 1 + j = i + (j + 1) by omega]; exact hne) (by rw [show i + 1 + j = i + (j + 1) by omega]; exact hnx)
        · cases h1
section
variable {cx : Cx} {n : Nat} {B : Bs} {k : List AI} {Q : Post} {fr : Fr} {σ : Heap}
theorem StepX.d {K : List Nat} {all : Array Oper} {o : Oper} {v : AV} (h : StepX cx n all σ σ K fr o v) : StepD cx n all σ K fr o v := by
  refine ⟨h.1, ?_⟩
  rcases h.2 with ⟨h1, h2, _⟩ | h1
  · exact .inl ⟨h1, h2⟩
  · exact .inr h1
theorem OpSpec.loadRA {o : Oper} {t : TypeId} {a : Operand} {m : Nat} {st : Bool} {cs : List AV} {x : AV} (ho : o.op = .load t a) (ha : aggT cx.P t = some true) (hm : szOf cx.P t = some m) (hea : ev cx fr a = .rp st cs) (hl : m ≤ cs.length) (hx : x = .agg (cs.take m)) : OpSpec cx n fr σ o x σ := by
  intro r ac w hi hf
  refine loadA_run (C := [m ≤ cs.length, x = .agg (cs.take m)]) hi hf ?_ ⟨hl, hx, trivial⟩
  rw [ho]
  simp only [loadA, ha, hm, hea, loadA.loadC]
theorem S_drawO {id : Nat} {ops : Array Oper} (m : Nat) (rs : List AV) {C : List Prop} {vals : List AV} {fr' : Fr} (hP : cx.P.follows .mixedOrders = true) (hchk : drawOk ops.toList m = true) (hmN : Nat.ble m ops.size = true)
    (hrun : runZ cx (guardKs ops.toList ops.toList) n ops ops.toList σ [] [] (ops.toList.take m) 0 fr rs (fun C vs f => some (C, vs, f)) = some (C, vals, fr')) (hC : AllP C)
    (hk : S cx n B (.ops ops (ops.toList.drop m) [] :: k) Q fr' σ) : S cx n B (.code (.region id ops true) :: k) Q fr σ := by
  intro r a w hi hf hd hx
  obtain ⟨c1, c2, c3, c4, c5⟩ := drawOk_spec hchk
  obtain ⟨C', vals', fr'', e, k1, k2, k3⟩ := runZ_spec _ _ _ _ _ hrun
  simp only [Option.some.injEq, Prod.mk.injEq] at e
  obtain ⟨rfl, rfl, rfl⟩ := e
  have k3 := k3 hC
  have hmN' := Nat.le_of_ble_eq_true hmN
  have hlen : vals'.length = m := by rw [k1, List.length_take, Array.length_toList]; omega
  obtain ⟨hi1, hx1⟩ := hi.heap_eq (w' := { w with drawn := w.drawn + 1 }) rfl rfl rfl rfl
  have hf1 := hf.mono (hx1.grow hi)
  have nl : ∀ {j : Nat}, ¬ Listed (Array.replicate ops.size false) j := by
    intro j hj
    unfold Listed at hj
    rw [Array.getD_eq_getD_getElem?, Array.getElem?_replicate] at hj
    split at hj <;> simp at hj
  refine wp_region_any hP ?_
  refine wpAny_front (cx := cx) (n := n) (B := B) (fr := fr) (σ := σ) (m := m) (vals := vals') (K := guardKs ops.toList ops.toList) hmN' hlen c1 c2 c3 c4 c5 (fun j o v hj ho hv => ?_) (fun r a w hi hf hd hx => ?_) ops.size _ r a _ (by simp) ?_ (fun j i hj => ?_) (fun j _ => ?_) ⟨hf1.size, fun j d v _ hj => ?_, fun t _ => hf1.get t, hf1.defs⟩ hi1 hd (hx.trans hx1)
  · have := k3 j o v (by rw [List.getElem?_take_of_lt hj]; exact ho) hv (List.not_mem_nil) (List.not_mem_nil)
    rw [List.take_take, Nat.min_eq_left (by omega)] at this
    exact this.d
  · rw [k2] at hk
    exact hk r a w hi hf hd hx
  · unfold unl; simp [List.countP_replicate]
  · exact absurd hj nl
  · exact nl
  · exact absurd hj nl
theorem S_drawOC {id : Nat} {ops : Array Oper} (σ2 : Heap) (jc m : Nat) (rs : List AV) {C : Heap → List Prop} {vals : List AV} {fr' : Fr} (hP : cx.P.follows .mixedOrders = true) (hchk : drawOk ops.toList m = true) (hmN : Nat.ble m ops.size = true) (hjc : Nat.blt jc m = true)
    (hrun : ∀ s, runZ cx (guardKs ops.toList ops.toList) n ops ops.toList s [jc] [] (ops.toList.take m) 0 fr rs (fun C vs f => some (C, vs, f)) = some (C s, vals, fr')) (hC : ∀ s, s = σ ∨ s = σ2 → AllP (C s))
    (hj : ∀ o v, ops.toList[jc]? = some o → vals[jc]? = some v → StepX cx n ops σ σ2 (guardKs ops.toList ops.toList) (restr ops.toList o (ovl (ops.toList.take jc) (vals.take jc) fr)) o v)
    (hk : S cx n B (.ops ops (ops.toList.drop m) [] :: k) Q fr' σ2) : S cx n B (.code (.region id ops true) :: k) Q fr σ := by
  intro r a w hi hf hd hx
  obtain ⟨c1, c2, c3, c4, c5⟩ := drawOk_spec hchk
  have key : ∀ s, s = σ ∨ s = σ2 → vals.length = (ops.toList.take m).length ∧ fr' = ovl (ops.toList.take m) vals fr ∧ ∀ (j : Nat) (o : Oper) (v : AV), (ops.toList.take m)[j]? = some o → vals[j]? = some v → 0 + j ∉ [jc] → StepX cx n ops s s (guardKs ops.toList ops.toList) (restr ops.toList o (ovl ((ops.toList.take m).take j) (vals.take j) fr)) o v := fun s hs => by
    obtain ⟨C', vals', fr'', e, k1, k2, k3⟩ := runZ_spec _ _ _ _ _ (hrun s)
    simp only [Option.some.injEq, Prod.mk.injEq] at e
    obtain ⟨rfl, rfl, rfl⟩ := e
    exact ⟨k1, k2, fun j o v a b c => k3 (hC s hs) j o v a b c List.not_mem_nil⟩
  obtain ⟨k1, k2, _⟩ := key σ (.inl rfl)
  have hmN' := Nat.le_of_ble_eq_true hmN
  have hjlt := blt_lt hjc
  have hlen : vals.length = m := by rw [k1, List.length_take, Array.length_toList]; omega
  obtain ⟨hi1, hx1⟩ := hi.heap_eq (w' := { w with drawn := w.drawn + 1 }) rfl rfl rfl rfl
  have hf1 := hf.mono (hx1.grow hi)
  have nl : ∀ {j : Nat}, ¬ Listed (Array.replicate ops.size false) j := by
    intro j hj
    unfold Listed at hj
    rw [Array.getD_eq_getD_getElem?, Array.getElem?_replicate] at hj
    split at hj <;> simp at hj
  have h0 : hpC σ σ2 jc (Array.replicate ops.size false) = σ := hpC_out (by
    cases hb : (Array.replicate ops.size false).getD jc false with
    | false => rfl
    | true => exact absurd hb nl)
  refine wp_region_any hP ?_
  refine wpAny_frontC (σ' := σ2) (jc := jc) (cx := cx) (n := n) (B := B) (fr := fr) (σ := σ) (m := m) (vals := vals) (K := guardKs ops.toList ops.toList) hjlt hmN' hlen c1 c2 c3 c4 c5 (fun j o v hjm ho hv => ?_) (fun r a w hi hf hd hx => ?_) ops.size _ r a _ (by simp) ?_ (fun j i hj => ?_) (fun j _ => ?_) ⟨hf1.size, fun j d v _ hj => ?_, fun t _ => hf1.get t, hf1.defs⟩ (by rw [h0]; exact hi1) hd (by rw [h0]; exact hx.trans hx1)
  · refine ⟨fun hne b => ?_, fun e => by subst e; exact hj o v ho hv⟩
    have h := fun s hs => (key s hs).2.2 j o v (by rw [List.getElem?_take_of_lt hjm]; exact ho) hv (by rw [Nat.zero_add, List.mem_singleton]; exact hne)
    rw [List.take_take, Nat.min_eq_left (by omega)] at h
    cases b with
    | true => exact h σ2 (.inr rfl)
    | false => exact h σ (.inl rfl)
  · rw [k2] at hk
    exact hk r a w hi hf hd hx
  · unfold unl; simp [List.countP_replicate]
  · exact absurd hj nl
  · exact nl
  · exact absurd hj nl
def hpL : Heap → List (Nat × Heap) → Array Bool → Heap
  | σ, [], _ => σ
  | σ, (j, σ') :: r, listed => match listed.getD j false with
    | true => hpL σ' r listed
    | false => σ
def stepsL (P : Heap → Nat → Heap → Prop) : Heap → List (Nat × Heap) → Prop
  | _, [] => True
  | σ, (j, σ') :: r => P σ j σ' ∧ stepsL P σ' r
def edgesL (ops : List Oper) : List Nat → Bool
  | j1 :: j2 :: r => edge ops j2 j1 && Nat.blt j1 j2 && edgesL ops (j2 :: r)
  | _ => true
def heapsL : Heap → List (Nat × Heap) → List Heap
  | σ, c => σ :: c.map Prod.snd
theorem hpL_none : ∀ (σ : Heap) (c : List (Nat × Heap)) (listed : Array Bool), (∀ e, c.head? = some e → listed.getD e.1 false = false) → hpL σ c listed = σ
  | σ, [], _, _ => rfl
  | σ, (j, σ') :: r, listed, h => by unfold hpL; rw [h _ rfl]
theorem hpL_keep (listed listed' : Array Bool) : ∀ (σ : Heap) (c : List (Nat × Heap)), (∀ e ∈ c, listed'.getD e.1 false = listed.getD e.1 false) → hpL σ c listed' = hpL σ c listed
  | σ, [], _ => rfl
  | σ, (j, σ') :: r, h => by
    unfold hpL
    rw [h _ (List.mem_cons_self ..), hpL_keep listed listed' σ' r fun e he => h e (List.mem_cons_of_mem _ he)]
theorem hpL_all : ∀ (σ : Heap) (c : List (Nat × Heap)) (listed : Array Bool), (∀ e ∈ c, listed.getD e.1 false = true) → hpL σ c listed = (heapsL σ c).getLast (by simp [heapsL])
  | σ, [], _, _ => rfl
  | σ, (j, σ') :: r, listed, h => by
    unfold hpL
    rw [h _ (List.mem_cons_self ..)]
    simp only
    rw [hpL_all σ' r listed fun e he => h e (List.mem_cons_of_mem _ he)]
    simp [heapsL, List.getLast_cons]
theorem hpL_step {ops : List Oper} {P : Heap → Nat → Heap → Prop} {listed listed' : Array Bool} {j : Nat} (hj : listed.getD j false = false) (hj' : listed'.getD j false = true) (hoth : ∀ i, i ≠ j → listed'.getD i false = listed.getD i false)
    (hdn : ∀ a b, listed.getD a false = true → edge ops a b = true → listed.getD b false = true) (hed : ∀ b, edge ops j b = true → listed.getD b false = true) :
    ∀ (σ : Heap) (c : List (Nat × Heap)), edgesL ops (c.map Prod.fst) = true → stepsL P σ c → j ∈ c.map Prod.fst → P (hpL σ c listed) j (hpL σ c listed')
  | σ, [], _, _, h => by cases h
  | σ, (j1, σ1) :: r, he, hs, hm => by
    by_cases e1 : j = j1
    · subst e1
      have a1 : hpL σ ((j, σ1) :: r) listed = σ := by unfold hpL; rw [hj]
      have a2 : hpL σ ((j, σ1) :: r) listed' = σ1 := by
        unfold hpL; rw [hj']
        simp only
        refine hpL_none σ1 r listed' fun e hhd => ?_
        cases r with
        | nil => cases hhd
        | cons x r' =>
          obtain rfl : x = e := Option.some.inj hhd
          simp only [List.map_cons, edgesL, Bool.and_eq_true] at he
          have hne : x.1 ≠ j := by have := blt_lt he.1.2; omega
          rw [hoth _ hne]
          cases hb : listed.getD x.1 false with
          | false => rfl
          | true => have := hdn _ _ hb he.1.1; rw [hj] at this; cases this
      rw [a1, a2]
      exact hs.1
    · have hm' : j ∈ r.map Prod.fst := by
        rcases List.mem_cons.1 (show j ∈ j1 :: r.map Prod.fst from hm) with h | h
        · exact absurd h e1
        · exact h
      have he' : edgesL ops (r.map Prod.fst) = true := by
        cases r with
        | nil => rfl
        | cons x r' => simp only [List.map_cons, edgesL, Bool.and_eq_true] at he; exact he.2
      have hd1 : ∀ (c : List (Nat × Heap)) (j1 : Nat), edgesL ops (j1 :: c.map Prod.fst) = true → j ∈ c.map Prod.fst → listed.getD j1 false = true := by
        intro c
        induction c with
        | nil => intro j1 _ h; cases h
        | cons x c ih =>
          intro j1 he hm
          simp only [List.map_cons, edgesL, Bool.and_eq_true] at he
          rcases List.mem_cons.1 (show j ∈ x.1 :: c.map Prod.fst from hm) with h | h
          · rw [← h] at he; exact hed _ he.1.1
          · exact hdn _ _ (ih x.1 he.2 h) he.1.1
      have hl1 := hd1 r j1 he hm'
      have a1 : hpL σ ((j1, σ1) :: r) listed = hpL σ1 r listed := by conv => lhs; unfold hpL; rw [hl1]
      have a2 : hpL σ ((j1, σ1) :: r) listed' = hpL σ1 r listed' := by conv => lhs; unfold hpL; rw [hoth _ (Ne.symm e1), hl1]
      rw [a1, a2]
      exact hpL_step hj hj' hoth hdn hed σ1 r he' hs.2 hm'
def exclL (ops : List Oper) (J : List Nat) (m k : Nat) : List Nat := (List.range m).filter fun i => (J.take k).any (fun q => edge ops q i) || (J.drop k).any (fun q => edge ops i q)
def runsL (P : Nat → Heap → Prop) : Nat → List Heap → Prop
  | _, [] => True
  | k, s :: r => P k s ∧ runsL P (k + 1) r
theorem hpL_at {ops : List Oper} {listed : Array Bool} (hdn : ∀ a b, listed.getD a false = true → edge ops a b = true → listed.getD b false = true) : ∀ {P : Nat → Heap → Prop} (k : Nat) (σ : Heap) (c : List (Nat × Heap)), edgesL ops (c.map Prod.fst) = true → runsL P k (heapsL σ c) →
    ∃ q, P (k + q) (hpL σ c listed) ∧ (∀ i ∈ (c.map Prod.fst).take q, listed.getD i false = true) ∧ (∀ i ∈ (c.map Prod.fst).drop q, listed.getD i false = false)
  | P, k, σ, [], _, h => ⟨0, h.1, (fun i hi => by cases hi), (fun i hi => by cases hi)⟩
  | P, k, σ, (j, σ') :: r, he, h => by
    cases hb : listed.getD j false with
    | false =>
      refine ⟨0, ?_, (fun i hi => by simp at hi), fun i hi => ?_⟩
      · unfold hpL; rw [hb]; exact h.1
      · have hall : ∀ (r : List (Nat × Heap)) (j : Nat), edgesL ops (j :: r.map Prod.fst) = true → listed.getD j false = false → ∀ i ∈ j :: r.map Prod.fst, listed.getD i false = false := by
          intro r
          induction r with
          | nil => intro j _ hj i hi; rw [List.mem_singleton.1 hi]; exact hj
          | cons x r ih =>
            intro j he hj i hi
            simp only [List.map_cons, edgesL, Bool.and_eq_true] at he
            rcases List.mem_cons.1 hi with rfl | hi
            · exact hj
            · refine ih x.1 he.2 ?_ i hi
              cases hx : listed.getD x.1 false with
              | false => rfl
              | true => have := hdn _ _ hx he.1.1; rw [hj] at this; cases this
        exact hall r j he hb i hi
    | true =>
      have he' : edgesL ops (r.map Prod.fst) = true := by
        cases r with
        | nil => rfl
        | cons x r' => simp only [List.map_cons, edgesL, Bool.and_eq_true] at he; exact he.2
      obtain ⟨q, h1, h2, h3⟩ := hpL_at hdn (k + 1) σ' r he' h.2
      refine ⟨q + 1, ?_, fun i hi => ?_, fun i hi => h3 i hi⟩
      · have : hpL σ ((j, σ') :: r) listed = hpL σ' r listed := by conv => lhs; unfold hpL; rw [hb]
        rw [this, show k + (q + 1) = k + 1 + q by omega]; exact h1
      · rcases List.mem_cons.1 (show i ∈ j :: (r.map Prod.fst).take q from hi) with rfl | hi
        · exact hb
        · exact h2 i hi
theorem S_drawOL {id : Nat} {ops : Array Oper} (c : List (Nat × Heap)) (σ2 : Heap) (m : Nat) (rs : List AV) (vals : List AV) (fr' : Fr) (hP : cx.P.follows .mixedOrders = true) (hchk : drawOk ops.toList m = true) (hmN : Nat.ble m ops.size = true) (hjm : c.all (fun e => Nat.blt e.1 m) = true) (hed : edgesL ops.toList (c.map Prod.fst) = true) (hds : (ops.toList.take m).all (fun o => dstOk n o.dst) = true)
    (hrun : runsL (fun k s => ∃ C, runZ cx (guardKs ops.toList ops.toList) n ops ops.toList s (c.map Prod.fst) (exclL ops.toList (c.map Prod.fst) m k) (ops.toList.take m) 0 fr rs (fun C vs f => some (C, vs, f)) = some (C, vals, fr') ∧ AllP C) 0 (heapsL σ c))
    (hs : stepsL (fun a j b => ∀ o v, ops.toList[j]? = some o → vals[j]? = some v → StepX cx n ops a b (guardKs ops.toList ops.toList) (restr ops.toList o (ovl (ops.toList.take j) (vals.take j) fr)) o v) σ c)
    (hl : (heapsL σ c).getLast (by simp [heapsL]) = σ2) (hk : S cx n B (.ops ops (ops.toList.drop m) [] :: k) Q fr' σ2) : S cx n B (.code (.region id ops true) :: k) Q fr σ := by
  intro r a w hi hf hd hx
  obtain ⟨c1, c2, c3, c4, c5⟩ := drawOk_spec hchk
  obtain ⟨k1, k2⟩ : vals.length = (ops.toList.take m).length ∧ fr' = ovl (ops.toList.take m) vals fr := by
    obtain ⟨⟨C, h1, _⟩, _⟩ := hrun
    obtain ⟨C', vals', fr'', e, k1, k2, k3⟩ := runZ_spec _ _ _ _ _ h1
    simp only [Option.some.injEq, Prod.mk.injEq] at e
    obtain ⟨rfl, rfl, rfl⟩ := e
    exact ⟨k1, k2⟩
  have hmN' := Nat.le_of_ble_eq_true hmN
  have hlen : vals.length = m := by rw [k1, List.length_take, Array.length_toList]; omega
  obtain ⟨hi1, hx1⟩ := hi.heap_eq (w' := { w with drawn := w.drawn + 1 }) rfl rfl rfl rfl
  have hf1 := hf.mono (hx1.grow hi)
  have nl : ∀ {j : Nat}, ¬ Listed (Array.replicate ops.size false) j := by
    intro j hj
    unfold Listed at hj
    rw [Array.getD_eq_getD_getElem?, Array.getElem?_replicate] at hj
    split at hj <;> simp at hj
  have nlF : ∀ {j : Nat}, (Array.replicate ops.size false).getD j false = false := by
    intro j
    cases hb : (Array.replicate ops.size false).getD j false with
    | false => rfl
    | true => exact absurd hb nl
  have h0 : hpL σ c (Array.replicate ops.size false) = σ := hpL_none _ _ _ fun e _ => nlF
  have hgs : ∀ (listed : Array Bool) (i j : Nat), i < listed.size → (listed.setIfInBounds i true).getD j false = if j = i then true else listed.getD j false := by
    intro listed i j hil
    simp only [Array.getD_eq_getD_getElem?, Array.getElem?_setIfInBounds]
    by_cases h : i = j
    · subst h; simp [hil]
    · rw [if_neg h, if_neg (Ne.symm h)]
  have hstep : ∀ (j : Nat) o v, j < m → ops.toList[j]? = some o → vals[j]? = some v → ∀ listed : Array Bool, listed.size = ops.size → ¬ Listed listed j → (∀ i, edge ops.toList j i = true → Listed listed i) → Down ops.toList listed → StepX cx n ops (hpL σ c listed) (hpL σ c (listed.setIfInBounds j true)) (guardKs ops.toList ops.toList) (restr ops.toList o (ovl (ops.toList.take j) (vals.take j) fr)) o v := by
    intro j o v hjm ho hv listed hsz hnl hed' hdn
    have hnlF : listed.getD j false = false := by
      cases hb : listed.getD j false with
      | false => rfl
      | true => exact absurd hb hnl
    by_cases hin : j ∈ c.map Prod.fst
    · exact hpL_step (listed' := listed.setIfInBounds j true) hnlF (by rw [hgs _ _ _ (by omega), if_pos rfl]) (fun i hne => by rw [hgs _ _ _ (by omega), if_neg hne]) (fun a b ha hab => hdn a b ha hab) (fun b hb => hed' b hb) σ c hed hs hin o v ho hv
    · rw [hpL_keep listed (listed.setIfInBounds j true) σ c fun e he => by rw [hgs _ _ _ (by omega), if_neg (fun h => hin (by rw [← h]; exact List.mem_map_of_mem he))]]
      obtain ⟨q, ⟨C, h1, hC⟩, hq1, hq2⟩ := hpL_at (listed := listed) (fun a b ha hab => hdn a b ha hab) 0 σ c hed hrun
      rw [Nat.zero_add] at h1
      obtain ⟨C', vals', fr'', e, _, _, k3⟩ := runZ_spec _ _ _ _ _ h1
      simp only [Option.some.injEq, Prod.mk.injEq] at e
      obtain ⟨rfl, rfl, rfl⟩ := e
      have h := k3 hC j o v (by rw [List.getElem?_take_of_lt hjm]; exact ho) hv (by rw [Nat.zero_add]; exact hin) (by
        rw [Nat.zero_add]
        intro hx
        obtain ⟨_, hx⟩ := List.mem_filter.1 hx
        rcases (Bool.or_eq_true _ _).mp hx with hx | hx
        · obtain ⟨p, hp1, hp2⟩ := List.any_eq_true.1 hx
          have := hdn p j (hq1 p hp1) hp2
          exact hnl this
        · obtain ⟨p, hp1, hp2⟩ := List.any_eq_true.1 hx
          have h5 : listed.getD p false = true := hed' p hp2
          rw [hq2 p hp1] at h5
          cases h5)
      rw [List.take_take, Nat.min_eq_left (by omega)] at h
      exact h
  refine wp_region_any hP ?_
  refine wpAny_frontG (σ' := σ2) (hp := hpL σ c) (cx := cx) (n := n) (B := B) (fr := fr) (m := m) (vals := vals) (K := guardKs ops.toList ops.toList) hmN' hlen c1 c2 c3 c4 c5 (fun listed hall => ?_) (fun j o hjm ho => ?_) hstep (fun r a w hi hf hd hx => ?_) ops.size _ r a _ (by simp) ?_ (fun j i hj => ?_) (fun j _ => ?_) ⟨hf1.size, fun j d v _ hj => ?_, fun t _ => hf1.get t, hf1.defs⟩ (by rw [h0]; exact hi1) hd (by rw [h0]; exact hx.trans hx1)
  · rw [hpL_all σ c listed fun e he => hall e.1 (blt_lt (List.all_eq_true.1 hjm e he))]
    exact hl
  · exact List.all_eq_true.1 hds o (List.mem_of_getElem? (by rw [List.getElem?_take_of_lt hjm]; exact ho))
  · rw [k2] at hk
    exact hk r a w hi hf hd hx
  · unfold unl; simp [List.countP_replicate]
  · exact absurd hj nl
  · exact nl
  · exact absurd hj nl
end
end Go.Ab
end
section
set_option linter.unusedVariables false
set_option linter.unusedSimpArgs false
namespace Go.Ab
open Go
theorem AllP_app {C D : List Prop} (h : AllP C) (hd : AllP D) : AllP (C ++ D) := by
  induction C with
  | nil => exact hd
  | cons p r ih => exact ⟨h.1, ih h.2⟩
section
variable {cx : Cx} {n : Nat} {B : Bs} {k : List AI} {Q : Post} {fr : Fr} {σ : Heap}
theorem OpSpec.storeX {o : Oper} {t : TypeId} {a x : Operand} {m id ver off : Nat} {cs : List AV} {gT : Option TypeId} {y : AV} {σ' : Heap} (ho : o.op = .store t a x) (hm : szOf cx.P t = some m) (hea : ev cx fr a = .eptr id ver off) (hx : ev cx fr x = y) (hyc : y.cells.length = m) (hy : allOne y.cells = true)
    (hσ : σ[id]? = some (ver, some (.cells cs ⟨false, gT⟩))) (hoff : off + m ≤ cs.length) (hσ' : σ' = σ.set id (ver, some (.cells (setRange cs off y.cells) ⟨false, gT⟩))) : OpSpec cx n fr σ o (.tup []) σ' := by
  subst hσ'
  refine OpSpec.store (C := [y.cells.length = m, allOne y.cells = true, ver = ver, off + m ≤ cs.length]) ?_ ⟨hyc, hy, rfl, hoff, trivial⟩
  rw [ho]
  simp only [storeA, hm, hea, hσ, hx]
theorem OpSpec.append0M {o : Oper} {s x : Operand} {t u : TypeId} {e sz by_ id ver off len : Nat} {fl : Bool} {y : AV} {C : List Prop} (ho : o.op = .call { callee := .builtin .append, args := #[s, x], argTypes := #[t, u] }) (hel : elemInfo cx.P t = some (e, sz, by_)) (hnt : notInt cx.P u = true)
    (hs : ev cx fr s = .ms id ver off len sz fl) (hx : ev cx fr x = y) (hy : aSrc sz y σ = some (C, 0, [])) (hC : AllP C) : OpSpec cx n fr σ o (.ms id ver off len sz fl) σ := by
  intro r ac w hi hf
  have h1 := ev_rel hi hf s
  have h2 := ev_rel hi hf x
  rw [hs] at h1
  rw [hx] at h2
  obtain ⟨dst, op, ty, pos, after, guard⟩ := o
  simp only at ho
  subst ho
  obtain ⟨i, z, hu, hinfo, hz, hz1, hz2, hz3⟩ := elemInfo_some hel
  obtain ⟨d, hd, hdk⟩ := notInt_some hnt
  obtain ⟨bs, hbs⟩ := run_len_call cx.P w ac.eval .append #[s, x] #[t, u] dst ty pos after guard
  have key : ∀ (a b : Value), VRel r w a (.ms id ver off len sz fl) → VRel r w b y → (Builtin.append_ #[t, u] ty #[a, b]).run cx.P w = .ok a w := by
    intro a b ha hb
    obtain ⟨hl1, hl2, news, hl3, hl4⟩ := aSrc_run hi hy hC hb
    have hnews : news = [] := List.eq_nil_of_length_eq_zero (by rw [hl3.1]; rfl)
    subst hnews
    cases a with
    | slice p n' cap =>
      have hcap : n' + 0 ≤ cap := by
        cases ha with
        | ms0 => exact Nat.le_refl 0
        | ms h hc hn hf => exact hn
      exact run_append_room' (P := cx.P) (w := w) (ty := ty) (base := p) (sLen := n') (sCap := cap) hu hd hdk hinfo hz2 hl1 hl4 hcap (w2 := w) (stO_nil _ _ _ _)
    | _ => cases ha
  refine ⟨r, w, ac.eval s, .inl ?_, h1, hi, Ext.refl _ _ _⟩
  rw [hbs]
  simp only [builtin, List.map_toArray, List.map_cons, List.map_nil]
  exact exec_v (key _ _ h1 h2)
theorem OpSpec.appendF {o : Oper} {s x : Operand} {t u : TypeId} {e sz by_ id ver off len m : Nat} {cs ys zs : List AV} {g : Tag} {y : AV} {C : List Prop} (ho : o.op = .call { callee := .builtin .append, args := #[s, x], argTypes := #[t, u] }) (hel : elemInfo cx.P t = some (e, sz, by_)) (hnt : notInt cx.P u = true)
    (hs : ev cx fr s = .ms id ver off len sz true) (hx : ev cx fr x = y) (hy : aSrc sz y σ = some (C, m, ys)) (hC : AllP C) (hy1 : ∀ z ∈ ys, z.one = true) (hm : m ≠ 0 ∨ len = 0) (hσ : Alive σ) (hb : σ[id]? = some (ver, some (.cells cs g))) (hl : off + len * sz ≤ cs.length)
    (hb1 : (len + m) * by_ ≤ 140737488355328) (hb2 : len + m ≤ 9223372036854775807) (hz : (cs.drop off).take (len * sz) ++ ys = zs) :
    OpSpec cx n fr σ o (.ms σ.length 0 0 (len + m) sz false) (σ ++ [(0, some (.cells zs ⟨false, tyU8 cx.P e⟩))]) := by
  subst hz
  obtain ⟨ro, ty⟩ := g
  refine OpSpec.aop (C := C ++ [∀ y ∈ ys, y.one = true, ver = ver, sz = sz, off + len * sz ≤ cs.length, m ≠ 0 ∨ len = 0, (len + m) * by_ ≤ 140737488355328, len + m ≤ 9223372036854775807]) ?_ (AllP_app hC ⟨hy1, rfl, rfl, hl, hm, hb1, hb2, trivial⟩)
  rw [ho]
  show aAppend cx.P t u (ev cx fr s) (ev cx fr x) σ = _
  rw [hs, hx]
  unfold aAppend
  rw [hel]
  simp only [hnt, cond_true, hy, hb, dropA_eq, hσ.alloc]
structure DelC (σ : Heap) (id ver i n : Nat) (cs : List AV) (sz : Nat) (id' ver' : Nat) (fl : Bool) (τ : Heap) : Prop where
  h : (i + 1 < n ∧ id' = σ.length ∧ ver' = 0 ∧ fl = false ∧ τ = [(0, some (.cells (cs.take (i * sz) ++ cs.drop ((i + 1) * sz)) ⟨false, none⟩))]) ∨ (i + 1 = n ∧ id' = id ∧ ver' = ver ∧ fl = true ∧ τ = [])
theorem DelC.ex (σ : Heap) (id ver : Nat) (cs : List AV) (sz : Nat) {i n : Nat} (h : i < n) : ∃ id' ver' fl τ, DelC σ id ver i n cs sz id' ver' fl τ := by
  by_cases h1 : i + 1 < n
  · exact ⟨_, _, _, _, ⟨.inl ⟨h1, rfl, rfl, rfl, rfl⟩⟩⟩
  · exact ⟨_, _, _, _, ⟨.inr ⟨by omega, rfl, rfl, rfl, rfl⟩⟩⟩
theorem DelC.alive {σ τ : Heap} {id ver i n sz id' ver' : Nat} {cs : List AV} {fl : Bool} (h : DelC σ id ver i n cs sz id' ver' fl τ) : ∀ e ∈ τ, ∃ x, e.2 = some x := by
  rcases h.h with ⟨_, _, _, _, rfl⟩ | ⟨_, _, _, _, rfl⟩
  · intro e he; rw [List.mem_singleton.1 he]; exact ⟨_, rfl⟩
  · intro e he; cases he
theorem DelC.place {σ τ : Heap} {id ver i n sz id' ver' : Nat} {cs : List AV} {fl : Bool} (h : DelC σ id ver i n cs sz id' ver' fl τ) : id' = id ∨ id' = σ.length := by
  rcases h.h with ⟨_, h1, _⟩ | ⟨_, h1, _⟩
  · exact .inr h1
  · exact .inl h1
theorem DelC.box {σ τ : Heap} {id ver i n sz id' ver' : Nat} {cs : List AV} {fl : Bool} (h : DelC σ id ver i n cs sz id' ver' fl τ) (hcs : cs.length = n * sz) (hσ : σ[id]? = some (ver, some (.cells cs ⟨false, none⟩))) :
    ∃ cs', (σ ++ τ)[id']? = some (ver', some (.cells cs' ⟨false, none⟩)) ∧ cs'.take ((n - 1) * sz) = cs.take (i * sz) ++ cs.drop ((i + 1) * sz) := by
  rcases h.h with ⟨hn, rfl, rfl, _, rfl⟩ | ⟨hn, rfl, rfl, _, rfl⟩
  · refine ⟨_, by simp, List.take_of_length_le ?_⟩
    rw [List.length_append, List.length_take, List.length_drop, hcs]
    have h1 : (i + 1) * sz + (n - (i + 1)) * sz = n * sz := by rw [← Nat.add_mul]; congr 1; omega
    have h2 : i * sz + (n - (i + 1)) * sz = (n - 1) * sz := by rw [← Nat.add_mul]; congr 1; omega
    have h3 : min (i * sz) (n * sz) ≤ i * sz := Nat.min_le_left ..
    omega
  · refine ⟨cs, by rw [List.append_nil]; exact hσ, ?_⟩
    subst hn
    rw [Nat.add_sub_cancel, List.drop_of_length_le (by omega), List.append_nil]
theorem OpSpec.delS {o : Oper} {s x : Operand} {t u : TypeId} {e sz by_ id ver i n' id' ver' : Nat} {cs : List AV} {fl f2 : Bool} {τ : Heap} {a b : AV} (hc : DelC σ id ver i n' cs sz id' ver' fl τ) (ho : o.op = .call { callee := .builtin .append, args := #[s, x], argTypes := #[t, u] }) (hel : elemInfo cx.P t = some (e, sz, by_)) (hnt : notInt cx.P u = true) (ht8 : tyU8 cx.P e = none)
    (hs : ev cx fr s = a) (ha : a = .ms id ver 0 i sz true) (hx : ev cx fr x = b) (hbb : b = .ms id ver ((i + 1) * sz) (n' - (i + 1)) sz f2) (hσ : Alive σ) (hb : σ[id]? = some (ver, some (.cells cs ⟨false, none⟩))) (hcs : cs.length = n' * sz) (hone : ∀ z ∈ cs, z.one = true) (hb1 : n' * by_ ≤ 140737488355328) (hb2 : n' ≤ 9223372036854775807) :
    OpSpec cx n fr σ o (.ms id' ver' 0 (n' - 1) sz fl) (σ ++ τ) := by
  have hbx : boxAt σ id = some (ver, cs, ⟨false, none⟩) := by simp [boxAt, hb]
  rcases hc.h with ⟨hn, rfl, rfl, rfl, rfl⟩ | ⟨hn, rfl, rfl, rfl, rfl⟩
  · have hsz : (i + 1) * sz + (n' - (i + 1)) * sz = cs.length := by rw [hcs, ← Nat.add_mul]; congr 1; omega
    have hsrc : aSrc sz (.ms id ver ((i + 1) * sz) (n' - (i + 1)) sz f2) σ = some ([ver = ver, sz = sz, (i + 1) * sz + (n' - (i + 1)) * sz ≤ cs.length], n' - (i + 1), cs.drop ((i + 1) * sz)) := by
      simp only [aSrc, hbx, dropA_eq]
      rw [List.take_of_length_le (by rw [List.length_drop]; omega)]
    have h := OpSpec.appendF (cx := cx) (n := n) (fr := fr) (σ := σ) (m := n' - (i + 1)) (cs := cs) (off := 0) (len := i) (y := b) (C := [ver = ver, sz = sz, (i + 1) * sz + (n' - (i + 1)) * sz ≤ cs.length]) (zs := cs.take (i * sz) ++ cs.drop ((i + 1) * sz)) ho hel hnt (hs.trans ha) hx (by rw [hbb]; exact hsrc) ⟨rfl, rfl, by omega, trivial⟩ (fun z hz => hone z (List.mem_of_mem_drop hz)) (.inl (by omega)) hσ hb (by
      have : i * sz ≤ (i + 1) * sz := Nat.mul_le_mul_right _ (by omega)
      omega) (by have : (i + (n' - (i + 1))) * by_ ≤ n' * by_ := Nat.mul_le_mul_right _ (by omega)
                 omega) (by omega) rfl
    rw [ht8, show i + (n' - (i + 1)) = n' - 1 by omega] at h
    exact h
  · subst hn
    have hsrc : aSrc sz (.ms id' ver' ((i + 1) * sz) (i + 1 - (i + 1)) sz f2) σ = some ([ver' = ver', sz = sz, (i + 1) * sz + (i + 1 - (i + 1)) * sz ≤ cs.length], 0, []) := by
      simp only [aSrc, hbx, dropA_eq, Nat.sub_self, Nat.zero_mul, List.take_zero]
    rw [List.append_nil, Nat.add_sub_cancel]
    exact OpSpec.append0M (y := b) (C := [ver' = ver', sz = sz, (i + 1) * sz + (i + 1 - (i + 1)) * sz ≤ cs.length]) ho hel hnt (hs.trans ha) hx (by rw [hbb]; exact hsrc) ⟨rfl, rfl, by rw [Nat.sub_self, Nat.zero_mul]; omega, trivial⟩
end
end Go.Ab
end
section
set_option linter.unusedVariables false
set_option linter.unusedSimpArgs false
namespace Go.Ab
open Go
section
variable {cx : Cx} {n : Nat} {B : Bs} {k : List AI} {Q : Post} {fr : Fr} {σ : Heap}
theorem wpAny_frontR {Stg : Array Bool → List AV → Heap → Prop} {ops : Array Oper} {m : Nat} {K : List Nat} {Q' : Exit → Act → World → Prop} (hmN : m ≤ ops.size) (hlen : ∀ listed vals σ, Stg listed vals σ → vals.length = m)
    (hread : ∀ j o t, j < m → ops.toList[j]? = some o → t ∈ slotsOf ops.toList o → readOk ops.toList m j t = true)
    (huniq : ∀ i j d, i < m → j < m → dstOf ops.toList i = some d → dstOf ops.toList j = some d → i = j)
    (hch : ∀ j, m < j → j < ops.size → edge ops.toList j (j - 1) = true) (hlo : ∀ j i, edge ops.toList j i = true → i < j)
    (hcl : m < ops.size → ∀ i, i < m → ∃ k, i < k ∧ k ≤ m ∧ edge ops.toList k i = true)
    (hdst : ∀ (j : Nat) (o : Oper), j < m → ops.toList[j]? = some o → dstOk n o.dst = true)
    (hstep : ∀ (listed : Array Bool) (vals : List AV) (σ : Heap), Stg listed vals σ → ∀ (j : Nat) o, j < m → ops.toList[j]? = some o → listed.size = ops.size → ¬ Listed listed j → (∀ i, edge ops.toList j i = true → Listed listed i) → Down ops.toList listed →
      (guardA ops o K (restr ops.toList o (ovl (ops.toList.take j) (vals.take j) fr)) = some false ∧ Stg (listed.setIfInBounds j true) (vals.set j (.tup [])) σ) ∨
      (guardA ops o K (restr ops.toList o (ovl (ops.toList.take j) (vals.take j) fr)) = some true ∧ ∀ r a w, Inv cx r σ w → FRel r w n (restr ops.toList o (ovl (ops.toList.take j) (vals.take j) fr)) a → ∀ Q, o.wp cx.P a w (fun a' w' => ∃ v σ' vals', (∀ i, Listed (listed.setIfInBounds j true) i → vals'[i]? = (vals.set j v)[i]?) ∧ Stg (listed.setIfInBounds j true) vals' σ' ∧ ∃ r' v', a' = a.put o.dst v' ∧ VRel r' w' v' v ∧ Inv cx r' σ' w' ∧ Ext r σ w r' σ' w') Q))
    (hend : ∀ (listed : Array Bool) (vals : List AV) (σ : Heap), Stg listed vals σ → (∀ j, j < m → Listed listed j) → ∀ r a w, Inv cx r σ w → FRel r w n (ovl (ops.toList.take m) vals fr) a → Dfs B a → Ext B.r B.σ B.w r σ w → wpList cx.P ops Q' (ops.toList.drop m) a w) :
    ∀ (f : Nat) (listed : Array Bool) (vals : List AV) (σ : Heap) (r : Rl) (a : Act) (w : World), Stg listed vals σ → listed.size = ops.size → unl listed = f → Down ops.toList listed → (∀ j, m ≤ j → ¬ Listed listed j) →
      FL r w n fr ops.toList m vals listed a → Inv cx r σ w → Dfs B a → Ext B.r B.σ B.w r σ w → wpAny cx.P .any ops Q' f listed a w := by
  have ovlN : ∀ (vals : List AV), vals.length = m → ∀ i, i ≤ m → ∀ vs, (ovl (ops.toList.take i) (vals.take i) fr).get n = .mark vs → fr.get n = .mark vs := by
    intro vals hlen i him vs hm
    rcases ovl_get (ops.toList.take i) (vals.take i) fr n (by simp [hlen]; omega) with ⟨i', o', v', k1, k2, k3, k4⟩ | ⟨k1, k2⟩
    · exfalso
      have hi'i : i' < i := by
        rcases Nat.lt_or_ge i' i with h' | h'
        · exact h'
        · rw [List.getElem?_eq_none (by simp; omega)] at k1; cases k1
      rw [List.getElem?_take_of_lt hi'i] at k1 k3
      have hds : dstOk n o'.dst = true := hdst i' o' (by omega) k1
      rw [k2] at hds
      have := blt_lt hds
      omega
    · rw [← k2]; exact hm
  have fin : ∀ (f : Nat) (listed : Array Bool) (vals : List AV) (σ : Heap) (r : Rl) (a : Act) (w : World), Stg listed vals σ → listed.size = ops.size → unl listed = f → (∀ j, j < m → Listed listed j) → (∀ j, m ≤ j → ¬ Listed listed j) →
      FL r w n fr ops.toList m vals listed a → Inv cx r σ w → Dfs B a → Ext B.r B.σ B.w r σ w → wpAny cx.P .any ops Q' f listed a w := by
    intro f listed vals σ r a w hS hs hf hall hno hfl hi hd hx
    have hlen := hlen _ _ _ hS
    have hcount : unl listed + m = ops.size := by
      have hl : listed.toList = List.replicate m true ++ List.replicate (ops.size - m) false := by
        apply List.ext_getElem
        · simp; omega
        · intro j h1 h2
          have hj : j < listed.size := by simpa using h1
          have h3 : listed.getD j false = listed.toList[j] := by simp [Array.getD_eq_getD_getElem?, hj]
          by_cases hjm : j < m
          · rw [List.getElem_append_left (by simpa using hjm), List.getElem_replicate, ← h3]; exact hall j hjm
          · rw [List.getElem_append_right (by simp; omega), List.getElem_replicate, ← h3]
            have := hno j (by omega)
            unfold Listed at this
            simpa using this
      unfold unl
      rw [hl, List.countP_append, List.countP_replicate, List.countP_replicate]
      simp; omega
    refine wpAny_tail hch hlo f m listed a w (by omega) (Nat.le_refl m) hs (fun i hi' => ⟨fun h => ?_, fun h => hall i h⟩) (hend listed vals σ hS hall r a w hi ⟨hfl.size, fun t => ?_, fun vs hm => ?_⟩ hd hx)
    case refine_3 =>
      refine hfl.defs vs (ovlN vals hlen m (Nat.le_refl _) vs ?_)
      rw [show vals.take m = vals from List.take_of_length_le (by omega)]
      exact hm
    · rcases Nat.lt_or_ge i m with h' | h'
      · exact h'
      · exact absurd h (hno i h')
    · rcases ovl_get (ops.toList.take m) vals fr t (by simp [hlen]; omega) with ⟨i, o, v, h1, h2, h3, h4⟩ | ⟨h1, h2⟩
      · rw [h4]
        have him : i < m := by
          rcases Nat.lt_or_ge i m with h' | h'
          · exact h'
          · rw [List.getElem?_eq_none (by simp; omega)] at h1; cases h1
        rw [List.getElem?_take_of_lt him] at h1
        exact hfl.done i t v him (hall i him) (by simp [dstOf, h1, h2]) h3
      · rw [h2]
        refine hfl.rest t (fun j hj _ hdj => ?_)
        obtain ⟨o, ho, hod⟩ := Option.bind_eq_some_iff.1 hdj
        exact h1 j o (by rw [List.getElem?_take_of_lt hj]; exact ho) hod
  intro f
  induction f with
  | zero =>
    intro listed vals σ r a w hS hs hf hdn hno hfl hi hd hx
    refine fin 0 listed vals σ r a w hS hs hf (fun j hj => ?_) hno hfl hi hd hx
    rcases hb : listed.getD j false with _ | _
    · have := unl_set (by omega) hb
      omega
    · exact hb
  | succ f ih =>
    intro listed vals σ r a w hS hs hf hdn hno hfl hi hd hx
    have hlenS := hlen _ _ _ hS
    by_cases hall : ∀ j, j < m → Listed listed j
    · exact fin (f + 1) listed vals σ r a w hS hs hf hall hno hfl hi hd hx
    have hex : ∃ j, j < m ∧ ¬ Listed listed j := by
      apply Classical.byContradiction
      intro h
      exact hall (fun j hj => Classical.byContradiction fun hl => h ⟨j, hj, hl⟩)
    refine ⟨fun h0 => ?_, fun i hir => ?_⟩
    · obtain ⟨j, h1, h2, h3⟩ := exists_least m hex
      have hjr : j ∈ Region.ready .any ops listed := by
        refine mem_ready.2 ⟨?_, ops[j]'(by omega), Array.getElem?_eq_getElem _, fun e he hb => ?_⟩
        · rw [listed_true (by omega)]; simpa [Listed] using h2
        · have h4 : e.on < j := hlo j e.on (edge_iff.2 ⟨ops[j]'(by omega), Array.getElem?_eq_getElem _, e, he, hb, rfl⟩)
          exact Classical.byContradiction fun h5 => h3 e.on h4 h5
      rw [h0] at hjr; cases hjr
    · obtain ⟨h0, o, ho, hedges⟩ := mem_ready.1 hir
      have hilt := (Array.getElem?_eq_some_iff.1 ho).1
      rw [listed_true (by omega)] at h0
      have hed : ∀ j, edge ops.toList i j = true → Listed listed j := by
        intro j hj
        obtain ⟨o', ho', e, he, hb, hon⟩ := edge_iff.1 hj
        rw [ho] at ho'; cases ho'
        rw [← hon]; exact hedges e he hb
      have him : i < m := by
        rcases Nat.lt_or_ge i m with h' | h'
        · exact h'
        · exfalso
          rcases Nat.eq_or_lt_of_le h' with h'' | h''
          · subst h''
            refine hall (fun j hj => ?_)
            have key : ∀ d j, d + j = m → j < m → Listed listed j := by
              intro d
              induction d using Nat.strongRecOn with
              | _ d ihd =>
                intro j hdj hj
                obtain ⟨k, h1, h2, h3⟩ := hcl hilt j hj
                rcases Nat.eq_or_lt_of_le h2 with h4 | h4
                · subst h4; exact hed j h3
                · exact hdn k j (ihd (m - k) (by omega) k (by omega) h4) h3
            exact key (m - j) j (by omega) hj
          · exact hno (i - 1) (by omega) (hed _ (hch i h'' hilt))
      have hol : ops.toList[i]? = some o := by simpa using ho
      have hst := hstep listed vals σ hS i o him hol hs (by simp [Listed, h0]) hed hdn
      have hdstI := hdst i o him hol
      have hnl : ¬ Listed listed i := by simp [Listed, h0]
      have hfr : FRel r w n (restr ops.toList o (ovl (ops.toList.take i) (vals.take i) fr)) a := by
        refine ⟨hfl.size, fun t => ?_, fun vs hm => ?_⟩
        case refine_2 =>
          unfold restr at hm
          rcases restr_get (slotsOf ops.toList o) (ovl (ops.toList.take i) (vals.take i) fr) n with h | ⟨h1, h2⟩
          · rw [h] at hm; cases hm
          · rw [h2] at hm
            exact hfl.defs vs (ovlN vals hlenS i (by omega) vs hm)
        unfold restr
        rcases restr_get (slotsOf ops.toList o) (ovl (ops.toList.take i) (vals.take i) fr) t with h | ⟨h1, h2⟩
        · rw [h]; exact .top
        · rw [h2]
          have hro := hread i o t him hol h1
          have hrd : ∀ i', i' < m → dstOf ops.toList i' = some t → (i' < i → edge ops.toList i i' = true) ∧ (i < i' → edge ops.toList i' i = true) := by
            intro i' hi' hd'
            have := allB_mem hro _ (List.mem_map.2 ⟨i', List.mem_range.2 hi', rfl⟩)
            rw [eqDst_iff.2 hd'] at this
            simp only at this
            constructor
            · intro hlt
              rw [lt_blt hlt] at this
              exact this
            · intro hlt
              rw [show Nat.blt i' i = false by cases hbb : Nat.blt i' i with | false => rfl | true => (have := blt_lt hbb; omega), show Nat.beq i' i = false by cases hbb : Nat.beq i' i with | false => rfl | true => (have := Nat.eq_of_beq_eq_true hbb; omega)] at this
              exact this
          rcases ovl_get (ops.toList.take i) (vals.take i) fr t (by simp [hlenS]; omega) with ⟨i', o', v', k1, k2, k3, k4⟩ | ⟨k1, k2⟩
          · rw [k4]
            have hi'i : i' < i := by
              rcases Nat.lt_or_ge i' i with h' | h'
              · exact h'
              · rw [List.getElem?_eq_none (by simp; omega)] at k1; cases k1
            rw [List.getElem?_take_of_lt hi'i] at k1 k3
            have hd' : dstOf ops.toList i' = some t := by simp only [dstOf, k1, Option.bind_some, k2]
            exact hfl.done i' t v' (by omega) (hed _ ((hrd i' (by omega) hd').1 hi'i)) hd' k3
          · rw [k2]
            refine hfl.rest t (fun j hj hlj hdj => ?_)
            rcases Nat.lt_trichotomy j i with h' | h' | h'
            · obtain ⟨oj, hoj, hod⟩ := Option.bind_eq_some_iff.1 hdj
              exact k1 j oj (by rw [List.getElem?_take_of_lt h']; exact hoj) hod
            · subst h'; exact hnl hlj
            · exact hnl (hdn j i hlj ((hrd j hj hdj).2 h'))
      have next : ∀ (r' : Rl) (w' : World) (v' : Value) (v : AV) (σ' : Heap) (vals' : List AV), (∀ k, Listed (listed.setIfInBounds i true) k → vals'[k]? = (vals.set i v)[k]?) → Stg (listed.setIfInBounds i true) vals' σ' → VRel r' w' v' v → Inv cx r' σ' w' → Ext r σ w r' σ' w' → wpAny cx.P .any ops Q' f (listed.setIfInBounds i true) (a.put o.dst v') w' := by
        intro r' w' v' v σ' vals' hva hS' hv' hi' hx'
        have hun := unl_set (by omega) h0
        refine ih _ vals' σ' r' _ w' hS' (by simpa using hs) (by omega) (fun j l hj he => ?_) (fun j hj hl => ?_) ⟨?_, fun j d u hj hl hdj hu => ?_, fun t ht => ?_, fun vs hm => by rw [Act.put_defers]; exact (hfl.defs vs hm).mono (hx'.grow hi)⟩ hi' (hd.put _ _) (hx.trans hx')
        · rw [listed_set (by omega)] at hj ⊢
          rcases hj with rfl | hj
          · exact .inr (hed l he)
          · exact .inr (hdn j l hj he)
        · rw [listed_set (by omega)] at hl
          rcases hl with rfl | hl
          · omega
          · exact hno j hj hl
        · cases hod : o.dst <;> simp [Act.put, hfl.size]
        · have hg := hx'.grow hi
          rw [hva j hl] at hu
          rw [listed_set (by omega)] at hl
          by_cases hji : j = i
          · subst hji
            rw [List.getElem?_set, if_pos rfl, if_pos (by omega)] at hu; cases hu
            have hod : o.dst = some d := by simpa [dstOf, hol] using hdj
            rw [hod]
            rw [hod] at hdstI
            simp only [Act.put]
            rw [getD_setIfInBounds (by rw [hfl.size]; exact blt_lt hdstI), if_pos rfl]
            exact hv'
          · have hl' := hl.resolve_left hji
            rw [List.getElem?_set, if_neg (Ne.symm hji)] at hu
            have hold := (hfl.done j d u hj hl' hdj hu).mono hg
            cases hod : o.dst with
            | none => exact hold
            | some d' =>
              have hne : d' ≠ d := fun e => hji (huniq j i d hj him hdj (by subst e; simp [dstOf, hol, hod]))
              rw [hod] at hdstI
              simp only [Act.put]
              rw [getD_setIfInBounds (by rw [hfl.size]; exact blt_lt hdstI), if_neg hne]
              exact hold
        · have hg := hx'.grow hi
          have hold := (hfl.rest t (fun j hj hl => ht j hj ((listed_set (by omega)).2 (.inr hl)))).mono hg
          have hti := ht i him ((listed_set (by omega)).2 (.inl rfl))
          cases hod : o.dst with
          | none => exact hold
          | some d' =>
            have hne : d' ≠ t := fun e => hti (by subst e; simp [dstOf, hol, hod])
            rw [hod] at hdstI
            simp only [Act.put]
            rw [getD_setIfInBounds (by rw [hfl.size]; exact blt_lt hdstI), if_neg hne]
            exact hold
      unfold wpOp
      simp only [ho]
      rcases hst with ⟨hg, hS'⟩ | ⟨hg, hgo⟩
      · rw [guardA_wanted (cx := cx) hfr hg]
        simp only [Bool.false_eq_true, if_false]
        exact next r w undef (.tup []) σ _ (fun _ _ => rfl) hS' (.tup rfl (fun i h => absurd h (by simp))) hi (Ext.refl _ _ _)
      · rw [guardA_wanted (cx := cx) hfr hg]
        simp only [if_true]
        refine .inl (Oper.wp_mono (fun a' w' h => ?_) (hgo r a w hi hfr Q'))
        obtain ⟨v, σ', vals', hva, hS', r', v', rfl, h2, h3, h4⟩ := h
        exact next r' w' v' v σ' vals' hva hS' h2 h3 h4
def StepR (cx : Cx) (n : Nat) (all : Array Oper) (σ : Heap) (R : AV → Heap → Prop) (K : List Nat) (fr : Fr) (o : Oper) : Prop :=
  guardA all o K fr = some true ∧ ∀ r a w, Inv cx r σ w → FRel r w n fr a → ∀ Q, o.wp cx.P a w (fun a' w' => ∃ v σ', R v σ' ∧ ∃ r' v', a' = a.put o.dst v' ∧ VRel r' w' v' v ∧ Inv cx r' σ' w' ∧ Ext r σ w r' σ' w') Q
theorem callR_step {R : AV → Heap → Prop} {R' : Out → Heap → Prop} {K : List Nat} {all : Array Oper} {o : Oper} {f : FuncId} {args : List AV} (hg : guardA all o K fr = some true) (hc : callA cx fr o.op = some (f, args))
    (h : CallOk cx f args σ R') (hR : ∀ out t, R' out t → ∃ v, out = .ret v ∧ R v t) : StepR cx n all σ R K fr o := by
  refine ⟨hg, fun r a w hi hf Q => ?_⟩
  obtain ⟨vs, h1, h2⟩ := callA_run hi hf hc h.1
  unfold Oper.wp
  rw [h1, Oper.upon_enter]
  refine (h.2 r w vs hi h2).mono fun e w' ⟨out, σ1, r', hR1, hor, hi', hx'⟩ => ?_
  obtain ⟨v, rfl, hv⟩ := hR _ _ hR1
  cases e with
  | returned u => exact ⟨v, σ1, hv, r', u, rfl, hor, hi', hx'⟩
  | panicked chain => exact hor.elim
  | outgrown => exact hor.elim
theorem S_drawRR {id : Nat} {ops : Array Oper} (j1 j2 m : Nat) (rs : AV → AV → List AV) (R1 : AV → Heap → Prop) (R2 : AV → Heap → AV → Heap → Prop) (Good : Heap → Prop) {C : Heap → AV → AV → List Prop} {V : AV → AV → List AV} {fr' : AV → AV → Fr} (hP : cx.P.follows .mixedOrders = true) (hchk : drawOk ops.toList m = true) (hmN : Nat.ble m ops.size = true) (hj : Nat.blt j1 j2 = true) (hj2 : Nat.blt j2 m = true) (he : edge ops.toList j2 j1 = true) (hds : (ops.toList.take m).all (fun o => dstOk n o.dst) = true)
    (hrun : ∀ s v1 v2, runZ cx (guardKs ops.toList ops.toList) n ops ops.toList s [j1, j2] [] (ops.toList.take m) 0 fr (rs v1 v2) (fun C vs f => some (C, vs, f)) = some (C s v1 v2, V v1 v2, fr' v1 v2)) (hV1 : ∀ u v1 v2, (V v1 v2).set j1 u = V u v2) (hV2 : ∀ u v1 v2, (V v1 v2).set j2 u = V v1 u)
    (hg0 : Good σ) (hg1 : ∀ v1 σ1, R1 v1 σ1 → Good σ1) (hg2 : ∀ v1 σ1 v2 σ2, R1 v1 σ1 → R2 v1 σ1 v2 σ2 → Good σ2) (hC : ∀ s v1 v2, Good s → AllP (C s v1 v2))
    (hs1 : ∀ o, ops.toList[j1]? = some o → StepR cx n ops σ R1 (guardKs ops.toList ops.toList) (restr ops.toList o (ovl (ops.toList.take j1) ((V .top .top).take j1) fr)) o)
    (hs2 : ∀ v1 σ1, R1 v1 σ1 → ∀ o, ops.toList[j2]? = some o → StepR cx n ops σ1 (R2 v1 σ1) (guardKs ops.toList ops.toList) (restr ops.toList o (ovl (ops.toList.take j2) ((V v1 .top).take j2) fr)) o)
    (hk : ∀ v1 σ1 v2 σ2, R1 v1 σ1 → R2 v1 σ1 v2 σ2 → S cx n B (.ops ops (ops.toList.drop m) [] :: k) Q (fr' v1 v2) σ2) : S cx n B (.code (.region id ops true) :: k) Q fr σ := by
  intro r a w hi hf hd hx
  obtain ⟨c1, c2, c3, c4, c5⟩ := drawOk_spec hchk
  have key : ∀ s v1 v2, (V v1 v2).length = (ops.toList.take m).length ∧ fr' v1 v2 = ovl (ops.toList.take m) (V v1 v2) fr ∧ (Good s → ∀ (j : Nat) (o : Oper) (v : AV), (ops.toList.take m)[j]? = some o → (V v1 v2)[j]? = some v → 0 + j ∉ [j1, j2] → StepX cx n ops s s (guardKs ops.toList ops.toList) (restr ops.toList o (ovl ((ops.toList.take m).take j) ((V v1 v2).take j) fr)) o v) := fun s v1 v2 => by
    obtain ⟨C', vals', fr'', e, k1, k2, k3⟩ := runZ_spec _ _ _ _ _ (hrun s v1 v2)
    simp only [Option.some.injEq, Prod.mk.injEq] at e
    obtain ⟨rfl, rfl, rfl⟩ := e
    exact ⟨k1, k2, fun hs j o v a b c => k3 (hC s v1 v2 hs) j o v a b c List.not_mem_nil⟩
  have hmN' := Nat.le_of_ble_eq_true hmN
  have hjlt := blt_lt hj
  have hjlt2 := blt_lt hj2
  have hlen : ∀ v1 v2, (V v1 v2).length = m := fun v1 v2 => by rw [(key σ v1 v2).1, List.length_take, Array.length_toList]; omega
  obtain ⟨hi1, hx1⟩ := hi.heap_eq (w' := { w with drawn := w.drawn + 1 }) rfl rfl rfl rfl
  have hf1 := hf.mono (hx1.grow hi)
  have nl : ∀ {j : Nat}, ¬ Listed (Array.replicate ops.size false) j := by
    intro j hj
    unfold Listed at hj
    rw [Array.getD_eq_getD_getElem?, Array.getElem?_replicate] at hj
    split at hj <;> simp at hj
  have hgs : ∀ (listed : Array Bool) (i j : Nat), i < listed.size → (listed.setIfInBounds i true).getD j false = if j = i then true else listed.getD j false := by
    intro listed i j hil
    simp only [Array.getD_eq_getD_getElem?, Array.getElem?_setIfInBounds]
    by_cases h : i = j
    · subst h; simp [hil]
    · rw [if_neg h, if_neg (Ne.symm h)]
  obtain ⟨Stg, hStg⟩ : ∃ Stg : Array Bool → List AV → Heap → Prop, Stg = fun listed vals s => (¬ Listed listed j1 ∧ ¬ Listed listed j2 ∧ vals = V .top .top ∧ s = σ) ∨ (Listed listed j1 ∧ ¬ Listed listed j2 ∧ ∃ v1, R1 v1 s ∧ vals = V v1 .top) ∨ (Listed listed j1 ∧ Listed listed j2 ∧ ∃ v1 σ1 v2, R1 v1 σ1 ∧ R2 v1 σ1 v2 s ∧ vals = V v1 v2) := ⟨_, rfl⟩
  have hform : ∀ listed vals s, Stg listed vals s → Good s ∧ ∃ v1 v2, vals = V v1 v2 := fun listed vals s h => by
    rw [hStg] at h
    rcases h with ⟨_, _, rfl, rfl⟩ | ⟨_, _, v1, h1, rfl⟩ | ⟨_, _, v1, σ1, v2, h1, h2, rfl⟩
    · exact ⟨hg0, _, _, rfl⟩
    · exact ⟨hg1 _ _ h1, _, _, rfl⟩
    · exact ⟨hg2 _ _ _ _ h1 h2, _, _, rfl⟩
  have hdst : ∀ (j : Nat) (o : Oper), j < m → ops.toList[j]? = some o → dstOk n o.dst = true := fun j o hjm ho => List.all_eq_true.1 hds o (List.mem_of_getElem? (by rw [List.getElem?_take_of_lt hjm]; exact ho))
  refine wp_region_any hP ?_
  refine wpAny_frontR (Stg := Stg) (cx := cx) (n := n) (B := B) (fr := fr) (m := m) (K := guardKs ops.toList ops.toList) hmN' (fun listed vals s hS => ?_) c1 c2 c3 c4 c5 hdst (fun listed vals s hS j o hjm ho hsz hnl hed hdn => ?_) (fun listed vals s hS hall r a w hi hf hd hx => ?_) ops.size _ (V .top .top) σ r a _ ?_ (by simp) ?_ (fun j i hj => ?_) (fun j _ => ?_) ⟨hf1.size, fun j d v _ hj => ?_, fun t _ => hf1.get t, hf1.defs⟩ hi1 hd (hx.trans hx1)
  · obtain ⟨_, v1, v2, rfl⟩ := hform _ _ _ hS
    exact hlen v1 v2
  · have hset : ∀ i, Listed (listed.setIfInBounds j true) i ↔ i = j ∨ Listed listed i := fun i => by
      unfold Listed
      rw [hgs _ _ _ (by omega)]
      by_cases e : i = j
      · subst e; simp
      · simp [e]
    by_cases e1 : j = j1
    · subst e1
      rw [hStg] at hS
      rcases hS with ⟨_, hn2, rfl, rfl⟩ | ⟨h1, _⟩ | ⟨h1, _⟩
      · obtain ⟨hg, hgo⟩ := hs1 o ho
        refine .inr ⟨hg, fun r a w hi hf Q => Oper.wp_mono (fun a' w' h => ?_) (hgo r a w hi hf Q)⟩
        obtain ⟨v, σ', hR, hrest⟩ := h
        refine ⟨v, σ', _, fun _ _ => rfl, ?_, hrest⟩
        rw [hStg, hV1]
        exact .inr (.inl ⟨(hset j).2 (.inl rfl), fun h => ((hset j2).1 h).elim (fun e => by omega) hn2, v, hR, rfl⟩)
      · exact absurd h1 hnl
      · exact absurd h1 hnl
    · by_cases e2 : j = j2
      · subst e2
        have hl1 : Listed listed j1 := hed j1 he
        rw [hStg] at hS
        rcases hS with ⟨h1, _⟩ | ⟨_, _, v1, h1, rfl⟩ | ⟨_, h2, _⟩
        · exact absurd hl1 h1
        · obtain ⟨hg, hgo⟩ := hs2 v1 s h1 o ho
          refine .inr ⟨hg, fun r a w hi hf Q => Oper.wp_mono (fun a' w' h => ?_) (hgo r a w hi hf Q)⟩
          obtain ⟨v, σ', hR, hrest⟩ := h
          refine ⟨v, σ', _, fun _ _ => rfl, ?_, hrest⟩
          rw [hStg, hV2]
          exact .inr (.inr ⟨(hset j1).2 (.inr hl1), (hset j).2 (.inl rfl), v1, s, v, h1, hR, rfl⟩)
        · exact absurd h2 hnl
      · obtain ⟨hgd, v1, v2, hv⟩ := hform _ _ _ hS
        obtain ⟨v, hvj⟩ : ∃ v, (V v1 v2)[j]? = some v := ⟨(V v1 v2)[j]'(by rw [hlen]; exact hjm), List.getElem?_eq_getElem _⟩
        have hX := (key s v1 v2).2.2 hgd j o v (by rw [List.getElem?_take_of_lt hjm]; exact ho) hvj (by rw [Nat.zero_add]; simp [e1, e2])
        rw [List.take_take, Nat.min_eq_left (by omega), ← hv] at hX
        have hsame : vals.set j v = vals := by
          rw [hv]
          obtain ⟨hlt, hge⟩ := List.getElem?_eq_some_iff.1 hvj
          rw [← hge, List.set_getElem_self]
        have hkeep : Stg (listed.setIfInBounds j true) (vals.set j v) s := by
          rw [hsame]
          rw [hStg] at hS ⊢
          rcases hS with ⟨h1, h2, h3⟩ | ⟨h1, h2, h3⟩ | ⟨h1, h2, h3⟩
          · exact .inl ⟨fun h => ((hset j1).1 h).elim (fun e => e1 e.symm) h1, fun h => ((hset j2).1 h).elim (fun e => e2 e.symm) h2, h3⟩
          · exact .inr (.inl ⟨(hset j1).2 (.inr h1), fun h => ((hset j2).1 h).elim (fun e => e2 e.symm) h2, h3⟩)
          · exact .inr (.inr ⟨(hset j1).2 (.inr h1), (hset j2).2 (.inr h2), h3⟩)
        rcases hX.2 with ⟨hg, rfl, _⟩ | ⟨hg, hgo⟩
        · exact .inl ⟨hg, hkeep⟩
        · refine .inr ⟨hg, fun r a w hi hf Q => Oper.wp_mono (fun a' w' h => ?_) (hgo r a w hi hf Q)⟩
          obtain ⟨r', v', h1, h2, h3, h4⟩ := h
          exact ⟨v, s, _, fun _ _ => rfl, hkeep, r', v', h1, h2, h3, h4⟩
  · rw [hStg] at hS
    rcases hS with ⟨h1, _⟩ | ⟨_, h2, _⟩ | ⟨_, _, v1, σ1, v2, h1, h2, rfl⟩
    · exact absurd (hall j1 (by omega)) h1
    · exact absurd (hall j2 hjlt2) h2
    · have := hk v1 σ1 v2 s h1 h2
      rw [(key σ v1 v2).2.1] at this
      exact this r a w hi hf hd hx
  · rw [hStg]; exact .inl ⟨nl, nl, rfl, rfl⟩
  · unfold unl; simp [List.countP_replicate]
  · exact absurd hj nl
  · exact nl
  · exact absurd hj nl
end
end Go.Ab
end
section
set_option linter.unusedVariables false
set_option linter.unusedSimpArgs false
namespace Go.Ab
open Go
theorem set_ne {σ : Heap} {i j : Nat} {x : Nat × Option Box} (h : i ≠ j) : (σ.set j x)[i]? = σ[i]? := by rw [List.getElem?_set, if_neg (Ne.symm h)]
theorem set_eq {σ : Heap} {j : Nat} {x y : Nat × Option Box} (h : σ[j]? = some y) : (σ.set j x)[j]? = some x := by
  have hi : j < σ.length := by
    rcases Nat.lt_or_ge j σ.length with h' | h'
    · exact h'
    · rw [List.getElem?_eq_none h'] at h; cases h
  simp [hi]
theorem lt_of_get {σ : Heap} {i : Nat} {y : Nat × Option Box} (h : σ[i]? = some y) : i < σ.length := by
  rcases Nat.lt_or_ge i σ.length with h' | h'
  · exact h'
  · rw [List.getElem?_eq_none h'] at h; cases h
theorem app_get {σ : Heap} {i : Nat} {y x : Nat × Option Box} (h : σ[i]? = some y) : (σ ++ [x])[i]? = some y := by
  rw [List.getElem?_append_left (lt_of_get h)]; exact h
theorem app_last {σ : Heap} {x : Nat × Option Box} : (σ ++ [x])[σ.length]? = some x := by simp
theorem alive_apps {σ τ : Heap} (h : Alive σ) (ht : Alive τ) : Alive (σ ++ τ) := fun e he => by
  rcases List.mem_append.1 he with he | he
  · exact h e he
  · exact ht e he
theorem apps_get {σ τ : Heap} {i : Nat} {y : Nat × Option Box} (h : σ[i]? = some y) : (σ ++ τ)[i]? = some y := by
  rw [List.getElem?_append_left (lt_of_get h)]; exact h
structure QKeep (σ σ' : Heap) (own own' : Nat → Prop) : Prop where
  len : σ.length ≤ σ'.length
  same : ∀ id, id < σ.length → ¬ own id → σ'[id]? = σ[id]?
  new : ∀ id, own' id → own id ∨ σ.length ≤ id
theorem QKeep.trans {σ σ1 σ2 : Heap} {o o1 o2 : Nat → Prop} (h : QKeep σ σ1 o o1) (h2 : QKeep σ1 σ2 o1 o2) : QKeep σ σ2 o o2 := by
  refine ⟨Nat.le_trans h.len h2.len, fun id hid hno => ?_, fun id hid => ?_⟩
  · have : ¬ o1 id := fun h1 => by
      rcases h.new id h1 with h3 | h3
      · exact hno h3
      · omega
    rw [h2.same id (Nat.lt_of_lt_of_le hid h.len) this, h.same id hid hno]
  · rcases h2.new id hid with h3 | h3
    · exact h.new id h3
    · exact .inr (Nat.le_trans h.len h3)
theorem QKeep.app {σ τ : Heap} {o : Nat → Prop} : QKeep σ (σ ++ τ) o o := ⟨by simp, fun id hid _ => List.getElem?_append_left hid, fun id h => .inl h⟩
theorem QKeep.refl {σ : Heap} {o : Nat → Prop} : QKeep σ σ o o := ⟨Nat.le_refl _, fun id hid _ => rfl, fun id h => .inl h⟩
theorem QKeep.set {σ σ' : Heap} {o o' : Nat → Prop} (h : QKeep σ σ' o o') {id : Nat} (hid : σ.length ≤ id) (x : Nat × Option Box) : QKeep σ (σ'.set id x) o o' :=
  ⟨by rw [List.length_set]; exact h.len, fun j hj hno => by rw [set_ne (by omega)]; exact h.same j hj hno, h.new⟩
theorem QKeep.setO {σ σ' : Heap} {o o' : Nat → Prop} (h : QKeep σ σ' o o') {id : Nat} (hid : o id) (x : Nat × Option Box) : QKeep σ (σ'.set id x) o o' :=
  ⟨by rw [List.length_set]; exact h.len, fun j hj hno => by rw [set_ne (by rintro rfl; exact hno hid)]; exact h.same j hj hno, h.new⟩
theorem QKeep.own {σ σ' : Heap} {o o' o2 : Nat → Prop} (h : QKeep σ σ' o o') (h2 : ∀ id, o2 id → o' id ∨ σ.length ≤ id) : QKeep σ σ' o o2 :=
  ⟨h.len, h.same, fun id hid => (h2 id hid).elim (h.new id) .inr⟩
theorem nodup_inj {α : Type} {l : List α} (h : l.Nodup) {i k : Nat} (hi : i < l.length) (hk : k < l.length) (e : l[i] = l[k]) : i = k := by
  have hp := List.pairwise_iff_getElem.1 h
  rcases Nat.lt_trichotomy i k with h' | h' | h'
  · exact absurd e (hp i k hi hk h')
  · exact h'
  · exact absurd e.symm (hp k i hk hi h')
theorem getErase {α : Type} : ∀ {l : List α} {i : Nat} (h : i < l.length), (l[i] :: l.eraseIdx i).Perm l
  | x :: r, 0, _ => .refl _
  | x :: r, i + 1, h => by
    have := getErase (l := r) (i := i) (Nat.lt_of_succ_lt_succ h)
    exact (List.Perm.swap ..).trans (this.cons x)
theorem eraseIdx_map' {α β : Type} (f : α → β) : ∀ (l : List α) (i : Nat), (l.map f).eraseIdx i = (l.eraseIdx i).map f
  | [], i => by simp
  | x :: r, 0 => rfl
  | x :: r, i + 1 => by rw [List.map_cons, List.eraseIdx_cons_succ, List.eraseIdx_cons_succ, List.map_cons, eraseIdx_map' f r i]
theorem setRange_1 {cs : List AV} {i : Nat} {x : AV} (h : i < cs.length) : setRange cs i [x] = cs.set i x := by
  apply List.ext_getElem?
  intro k
  rw [setRange_get _ _ _ (by simp; omega), List.getElem?_set]
  by_cases hk : i = k
  · subst hk; simp [h]
  · rw [if_neg (by simp; omega), if_neg hk]
end Go.Ab
end
section
set_option linter.unusedVariables false
set_option linter.unusedSimpArgs false
namespace Go.Ab
open Go
def sortT (l : List (List UInt8)) : List (List UInt8) := l.mergeSort fun x y => decide (x ≤ y)
theorem leT_trans (a b c : List UInt8) : decide (a ≤ b) = true → decide (b ≤ c) = true → decide (a ≤ c) = true := by
  simp only [decide_eq_true_eq]; exact fun h1 h2 => List.le_trans h1 h2
theorem leT_total (a b : List UInt8) : (decide (a ≤ b) || decide (b ≤ a)) = true := by
  simp only [Bool.or_eq_true, decide_eq_true_eq]; exact List.le_total a b
theorem perm_sorted : ∀ {a b : List (List UInt8)}, a.Perm b → a.Pairwise (fun x y => x ≤ y) → b.Pairwise (fun x y => x ≤ y) → a = b
  | [], b, h, _, _ => (List.nil_perm.1 h).symm
  | x :: a, [], h, _, _ => absurd h.length_eq (by simp)
  | x :: a, y :: b, h, h1, h2 => by
    obtain ⟨p1, p2⟩ := List.pairwise_cons.1 h1
    obtain ⟨q1, q2⟩ := List.pairwise_cons.1 h2
    have hxy : x = y := by
      have hx : x ∈ y :: b := h.mem_iff.1 (List.mem_cons_self ..)
      have hy : y ∈ x :: a := h.mem_iff.2 (List.mem_cons_self ..)
      rcases List.mem_cons.1 hx with hx | hx
      · exact hx
      · rcases List.mem_cons.1 hy with hy | hy
        · exact hy.symm
        · exact List.le_antisymm (p1 y hy) (q1 x hx)
    subst hxy
    rw [perm_sorted (List.Perm.cons_inv h) p2 q2]
theorem sortT_pw (l : List (List UInt8)) : (sortT l).Pairwise fun x y => x ≤ y := by
  have := List.pairwise_mergeSort (le := fun x y : List UInt8 => decide (x ≤ y)) leT_trans leT_total l
  exact this.imp (fun h => by simpa using h)
theorem sortT_perm (l : List (List UInt8)) : (sortT l).Perm l := List.mergeSort_perm _ _
theorem sortT_eq {a b : List (List UInt8)} (h : a.Perm b) : sortT a = sortT b :=
  perm_sorted ((sortT_perm a).trans (h.trans (sortT_perm b).symm)) (sortT_pw a) (sortT_pw b)
end Go.Ab
end
section
namespace Go.Proofs.Ytopdpbcfgjijaaa
open Go Go.Ab
def tabs0 (_ : Nat) : Option (List AV) := none
def tabs (g : Nat) : Option (List AV) := tabs0 g
def whole (_ : Nat) : Option (Array Value) := none
noncomputable def cx : Cx := { P := Try.prog, G := tabs, X := whole }
end Go.Proofs.Ytopdpbcfgjijaaa
end
section
set_option linter.unusedVariables false
set_option linter.unusedSimpArgs false
set_option maxRecDepth 20000
namespace Go.Proofs.Ytopdpbcfgjijaaa
open Go Go.Ab
section
variable {cx : Cx} {n : Nat} {B : Bs} {k : List AI} {Q : Post} {fr : Fr} {σ : Heap}
theorem after_goto {l : Nat} : ∀ k : List AI, after cx n B k Q (.goto l) = Q (.goto l)
  | [] => rfl
  | .code c :: k => after_goto k
  | .blk id :: k => after_goto k
  | .ops all l' K :: k => after_goto k
  | .inv M :: k => after_goto k
theorem S_scope {c : Code} (hQ : ∀ l fr σ, ¬ Q (.goto l) fr σ) (h : S cx n B (.code c :: k) Q fr σ) : S cx n B (.code (.scope c) :: k) Q fr σ := by
  intro r a w hi hf hd hx
  refine wp_scope_straight (wp_mono (h r a w hi hf hd hx) fun e a w hq => ?_)
  obtain ⟨ae, fr', σ', r', hq, he, hi', hf', hd', hx'⟩ := hq
  cases e <;> cases ae <;> first | exact he.elim | exact Lift.mk hq he hi' hf' hd' hx' | exact hQ _ _ _ ((congrFun (congrFun (after_goto k) fr') σ').mp hq)
theorem S_ext {all : Array Oper} {o : Oper} {l : List Oper} {K : List Nat} {f : FuncId} {args : List AV} {res : AV}
    (hext : ∀ (r : Rl) (w : World) (vs : Array Value), VRels r w vs args → ∃ v, (callFunc f vs).run cx.P w = .ok (.value v) w ∧ VRel r w v res) (hc : callA cx fr o.op = some (f, args)) (hg : guardA all o K fr = some true)
    (hd : dstOk n o.dst = true) (hk : S cx n B (.ops all l K :: k) Q (setA o.dst res fr) σ) : S cx n B (.ops all (o :: l) K :: k) Q fr σ := by
  refine S_do hg hd (fun r a w hi hf => ?_) hk
  obtain ⟨vs, h1, h2⟩ := callA_go hi hf hc
  obtain ⟨v, h3, h4⟩ := hext r w vs h2
  exact ⟨r, w, v, .inl (by rw [h1, h3]), h4, hi, Ext.refl _ _ _⟩
end
theorem ixb (s : List UInt8) (c : Int) (r : Rl) (w : World) (vs : Array Value) (h : VRels r w vs [.str s, .int .u8 c]) :
    ∃ v, (callFunc 86 vs).run cx.P w = .ok (.value v) w ∧ VRel r w v (.int .i64 (Lib.indexByte s c.toNat.toUInt8)) := by
  obtain ⟨hs, hv⟩ := h
  obtain ⟨x, y, rfl⟩ : ∃ x y, vs = #[x, y] := by
    rcases vs with ⟨l⟩
    match l, hs with
    | [x, y], _ => exact ⟨x, y, rfl⟩
  have h0 := hv 0 (by simp)
  have h1 := hv 1 (by simp)
  simp only [List.getElem_cons_zero, List.getElem_cons_succ] at h0 h1
  have h0 : VRel r w x (.str s) := h0
  have h1 : VRel r w y (.int .u8 c) := h1
  cases h0 with
  | str h =>
    subst h
    cases h1
    refine ⟨_, ?_, .int⟩
    show (callFunc 86 _).run Try.prog w = _
    rw [run_callFunc_extern Try.func86 rfl rfl rfl (e := Extern.BytealgIndexByte.indexByte) rfl, Lib.run_indexByteString]
    rfl
theorem indexByteS_ok (s : List UInt8) (c : Int) : Calc cx 81 [.str s, .int .u8 c] (.int .i64 (Lib.indexByte s c.toNat.toUInt8)) :=
  pure_intro (fun a w => Try.call81 a w) Try.func81 rfl Try.ntmps81 rfl .int fun B => by
    refine ab 1000 rfl trivial ?_
    refine S_ext (ixb s c) rfl rfl rfl ?_
    refine ab 1000 rfl trivial ?_
    exact S_retc .int rfl trivial rfl
theorem indexByte_ok (s : List UInt8) (c : Int) : Calc cx 63 [.str s, .int .u8 c] (.int .i64 (Lib.indexByte s c.toNat.toUInt8)) :=
  pure_intro (fun a w => Try.call63 a w) Try.func63 rfl Try.ntmps63 rfl .int fun B => by
    refine ab 1000 rfl trivial ?_
    refine S_pure rfl rfl rfl (indexByteS_ok s c) (.cons (.refl .str) (.cons (.refl .int) (.nil _))) ?_
    refine ab 1000 rfl trivial ?_
    exact S_retc .int rfl trivial rfl
end Go.Proofs.Ytopdpbcfgjijaaa
end
section
set_option linter.unusedVariables false
set_option linter.unusedSimpArgs false
set_option maxRecDepth 20000
namespace Go.Proofs.Ytopdpbcfgjijaaa
open Go Go.Ab
theorem validRune_ok (r : Int) : Calc cx 64 [.int .i32 r] (.bool (decide ((0 ≤ r ∧ r < 55296) ∨ (57343 < r ∧ r ≤ 1114111)))) :=
  pure_intro (fun a w => Try.call64 a w) Try.func64 rfl Try.ntmps64 rfl .bool fun B => by
    have yes : ((0 ≤ r ∧ r < 55296) ∨ (57343 < r ∧ r ≤ 1114111)) → AV.bool true = .bool (decide ((0 ≤ r ∧ r < 55296) ∨ (57343 < r ∧ r ≤ 1114111))) := fun h => by rw [decide_eq_true h]
    have no : ¬ ((0 ≤ r ∧ r < 55296) ∨ (57343 < r ∧ r ≤ 1114111)) → AV.bool false = .bool (decide ((0 ≤ r ∧ r < 55296) ∨ (57343 < r ∧ r ≤ 1114111))) := fun h => by rw [decide_eq_false h]
    have second : ∀ (h : ¬ (0 ≤ r ∧ r < 55296)), True := fun _ => trivial
    refine ab 1000 rfl trivial ?_
    refine S_guard rfl rfl rfl rfl (fun h => ?_) (fun h => ?_)
    · have h := of_decide_eq_true h
      refine ab 1000 rfl trivial ?_
      refine S_dec rfl (fun h2 => ?_) (fun h2 => ?_)
      · refine ab 1000 rfl trivial ?_
        exact S_retc .bool rfl trivial (yes (by omega))
      · refine ab 1000 rfl trivial ?_
        refine S_guard rfl rfl rfl rfl (fun h3 => ?_) (fun h3 => ?_)
        · have h3 := of_decide_eq_true h3
          refine ab 1000 rfl trivial ?_
          refine S_dec rfl (fun h4 => ?_) (fun h4 => ?_)
          · refine ab 1000 rfl trivial ?_
            exact S_retc .bool rfl trivial (yes (by omega))
          · refine ab 1000 rfl trivial ?_
            exact S_retc .bool rfl trivial (no (by omega))
        · have h3 := of_decide_eq_false h3
          refine ab 1000 rfl trivial ?_
          refine S_cond rfl (fun h => by cases h) (fun _ => ?_)
          refine ab 1000 rfl trivial ?_
          exact S_retc .bool rfl trivial (no (by omega))
    · have h := of_decide_eq_false h
      refine ab 1000 rfl trivial ?_
      refine S_cond rfl (fun h => by cases h) (fun _ => ?_)
      refine ab 1000 rfl trivial ?_
      refine S_guard rfl rfl rfl rfl (fun h3 => ?_) (fun h3 => ?_)
      · have h3 := of_decide_eq_true h3
        omega
      · refine ab 1000 rfl trivial ?_
        refine S_cond rfl (fun h => by cases h) (fun _ => ?_)
        refine ab 1000 rfl trivial ?_
        exact S_retc .bool rfl trivial (no (by omega))
theorem enc_last {r : Int} (h0 : 128 ≤ r) (h1 : (0 ≤ r ∧ r < 55296) ∨ (57343 < r ∧ r ≤ 1114111)) :
    ∃ l x, (Utf8.encode r).data.toList = l ++ [x] ∧ 1 ≤ l.length ∧ l.length ≤ 3 ∧ 128 ≤ x.toNat := by
  have hv : Utf8.valid r = true := by
    unfold Utf8.valid
    simp
    omega
  unfold Utf8.encode
  simp only [hv, if_true]
  obtain ⟨m, rfl⟩ := Int.eq_ofNat_of_zero_le (by omega : 0 ≤ r)
  have hb : ∀ z : Nat, z < 64 → 128 ≤ (UInt8.ofNat (128 + z)).toNat := fun z hz => by
    rw [UInt8.toNat_ofNat']; omega
  simp only [Int.toNat_natCast]
  rw [if_neg (by omega)]
  split
  · exact ⟨[_], _, rfl, by simp, by simp, hb _ (Nat.mod_lt _ (by decide))⟩
  · split
    · exact ⟨[_, _], _, rfl, by simp, by simp, hb _ (Nat.mod_lt _ (by decide))⟩
    · exact ⟨[_, _, _], _, rfl, by simp, by simp, hb _ (Nat.mod_lt _ (by decide))⟩
def marks : List UInt8 := [95, 45, 46]
theorem no_high {x : UInt8} (h : 128 ≤ x.toNat) : ∀ i, Lib.indexByte (marks.drop i) x = -1 := by
  have n1 : ((95 : UInt8) == x) = false := by rw [beq_eq_false_iff_ne]; rintro rfl; revert h; decide
  have n2 : ((45 : UInt8) == x) = false := by rw [beq_eq_false_iff_ne]; rintro rfl; revert h; decide
  have n3 : ((46 : UInt8) == x) = false := by rw [beq_eq_false_iff_ne]; rintro rfl; revert h; decide
  intro i
  match i with
  | 0 => simp [marks, Lib.indexByte, n1, n2, n3]
  | 1 => simp [marks, Lib.indexByte, n1, n2, n3]
  | 2 => simp [marks, Lib.indexByte, n1, n2, n3]
  | i + 3 => simp [marks, Lib.indexByte]
def markAt (r : Int) : Int := if r = 95 then 0 else if r = 45 then 1 else if r = 46 then 2 else -1
theorem low_mark : ∀ m : Fin 128, Lib.indexByte marks (m.1.toUInt8) = markAt m.1 := by decide +kernel
theorem indexRune_ok (r : Int) : Calc cx 50 [.str marks, .int .i32 r] (.int .i64 (markAt r)) :=
  pure_intro (fun a w => Try.call50 a w) Try.func50 rfl Try.ntmps50 rfl .int fun B => by
    have none : (r < 0 ∨ 128 ≤ r) → AV.int .i64 (-1) = .int .i64 (markAt r) := fun h => by
      rw [markAt, if_neg (by omega), if_neg (by omega), if_neg (by omega)]
    refine ab 1000 rfl trivial ?_
    refine S_split 4 (fun fr σ => Weak fr [(0, .str marks), (1, .int .i32 r), (160, .bool (decide (0 ≤ r ∧ r < 128)))] ∧ σ = []) ?_ ?_
    · refine S_guard rfl rfl rfl rfl (fun h => ?_) (fun h => ?_)
      · have h := of_decide_eq_true h
        refine ab 1000 rfl trivial ?_
        exact S_inv ⟨.cons rfl (.cons rfl (.cons (by show AV.bool (decide (r < 128)) = _; congr 1; simp [h]) (.nil _))), rfl⟩
      · have h := of_decide_eq_false h
        refine ab 1000 rfl trivial ?_
        exact S_inv ⟨.cons rfl (.cons rfl (.cons (by show AV.bool false = _; congr 1; simp [h]) (.nil _))), rfl⟩
    rintro fr σ ⟨hw, rfl⟩
    refine S_opsW hw ?_
    refine ab 1000 rfl trivial ?_
    refine S_dec rfl (fun h => ?_) (fun h => ?_)
    · refine ab 1000 rfl trivial ?_
      refine S_pure rfl rfl rfl (indexByte_ok marks _) (.cons (.refl .str) (.cons (.refl .int) (.nil _))) ?_
      refine ab 1000 rfl trivial ?_
      refine S_retc .int rfl trivial ?_
      show AV.int .i64 (Lib.indexByte marks (IntKind.u8.wrap r).toNat.toUInt8) = _
      obtain ⟨m, rfl⟩ := Int.eq_ofNat_of_zero_le h.1
      rw [wrap_low rfl, Int.toNat_natCast, Nat.mod_eq_of_lt (by show m < 256; omega)]
      exact congrArg _ (low_mark ⟨m, by omega⟩)
    · refine ab 1000 rfl trivial ?_
      refine S_beq rfl (fun h2 => ?_) (fun h2 => ?_)
      · refine ab 1000 rfl trivial ?_
        refine S_while (α := Nat) (fun i => [(0, .str marks), (175, .ptr 0 0 0)]) (fun i => [(0, some (.siter marks i))]) (fun i => i ≤ 3) (fun i => 3 - i) 0
          (Nat.zero_le _) (.cons rfl (.cons rfl (.nil _))) rfl ?_
        rintro i hi
        refine ab 1000 rfl trivial ?_
        refine S_next rfl rfl rfl rfl rfl (fun hil => ?_) (fun hge => ?_)
        · have hi3 : i < 3 := hil
          have hc : (marks[i]).toNat < 128 := (show ∀ j : Fin 3, (marks[j.1]'j.2).toNat < 128 by decide) ⟨i, hi3⟩
          rw [decL_lt hil hc]
          refine ab 1000 rfl trivial ?_
          refine S_cond rfl (fun _ => ?_) (fun h => by cases h)
          refine ab 1000 rfl trivial ?_
          refine S_beq rfl (fun h3 => ?_) (fun h3 => ?_)
          · exact absurd (show (((marks[i]).toNat : Nat) : Int) = 65533 from h3) (by omega)
          · refine ab 1000 rfl trivial ?_
            exact S_round (i + 1) (by show 3 - (i + 1) < 3 - i; omega) (by show i + 1 ≤ 3; omega) (.cons rfl (.cons rfl (.nil _))) rfl
        · refine ab 1000 rfl trivial ?_
          refine S_cond rfl (fun h => by cases h) (fun _ => ?_)
          refine ab 1000 rfl trivial ?_
          exact S_retc .int rfl trivial (none (by omega))
      · refine ab 1000 rfl trivial ?_
        refine S_pure rfl rfl rfl (validRune_ok r) (.cons (.refl .int) (.nil _)) ?_
        refine ab 1000 rfl trivial ?_
        refine S_cond rfl (fun h3 => ?_) (fun h3 => ?_)
        · refine ab 1000 rfl trivial ?_
          exact S_retc .int rfl trivial (none (by omega))
        · have hv : (0 ≤ r ∧ r < 55296) ∨ (57343 < r ∧ r ≤ 1114111) := by
            rcases Decidable.em ((0 ≤ r ∧ r < 55296) ∨ (57343 < r ∧ r ≤ 1114111)) with hp | hp
            · exact hp
            · have h3 : (!decide ((0 ≤ r ∧ r < 55296) ∨ (57343 < r ∧ r ≤ 1114111))) = false := h3
              rw [decide_eq_false hp] at h3
              cases h3
          have h128 : 128 ≤ r := by omega
          obtain ⟨l, x, he, hl1, hl2, hx⟩ := enc_last h128 hv
          refine ab 1000 rfl trivial ?_
          refine S_scope (fun _ _ _ h => h) ?_
          refine ab 1000 rfl trivial ?_
          refine S_while (α := Unit) (fun _ => [(0, .str marks), (7, .str (l ++ [x])), (8, .int .i64 (l.length : Nat)), (9, .int .i64 (l.length : Nat))]) (fun _ => []) (fun _ => True) (fun _ => 0) () trivial
            (.cons rfl (.cons ?_ (.cons ?_ (.cons ?_ (.nil _))))) rfl ?_
          · show AV.str _ = _; rw [he]
          · show AV.int .i64 (IntKind.i64.wrap (((Utf8.encode r).data.toList.length : Nat) - 1 : Int)) = _
            rw [he, List.length_append]; exact congrArg _ (w64 (by simp) (by omega))
          · show AV.int .i64 (IntKind.i64.wrap (((Utf8.encode r).data.toList.length : Nat) - 1 : Int)) = _
            rw [he, List.length_append]; exact congrArg _ (w64 (by simp) (by omega))
          rintro _ _
          refine ab 1000 rfl trivial ?_
          refine S_dec rfl (fun hlt => ?_) (fun hge => ?_)
          · have hlt : (l.length : Int) < 3 := hlt
            refine ab 1000 rfl trivial ?_
            refine S_scope (fun _ _ _ h => h) ?_
            refine ab 1000 rfl trivial ?_
            refine S_draw 7 [] [] rfl rfl rfl rfl ?_ ?_
            · exact ⟨rfl, rfl, rfl, by omega, hlt, rfl, rfl, rfl, by omega, by simp; omega, rfl, trivial⟩
            refine ab 1000 rfl trivial ?_
            refine S_bne rfl (fun h4 => ?_) (fun h4 => ?_)
            · refine ab 1000 rfl trivial ?_
              refine S_draw 8 [] [.int .i64 (-1)] rfl rfl rfl rfl ?_ ?_
              · have hcalc : ∀ (s' : List UInt8) (c : Int), s' = marks.drop (l.length + 1) → c = (x.toNat : Nat) → Calc cx 63 [.str s', .int .u8 c] (.int .i64 (-1)) := by
                  rintro s' c rfl rfl
                  have h5 := indexByte_ok (marks.drop (l.length + 1)) (x.toNat : Nat)
                  rwa [Int.toNat_natCast, show x.toNat.toUInt8 = x from UInt8.ofNat_toNat, no_high hx] at h5
                have hw1 : IntKind.i64.wrap ((l.length : Int) + 1) = ((l.length + 1 : Nat) : Int) := w64 rfl (by omega)
                refine ⟨rfl, rfl, rfl, rfl, ?_, ?_, rfl, rfl, rfl, by omega, by simp; omega, ⟨_, hcalc _ _ ?_ ?_, .cons (.refl .str) (.cons (.refl .int) (.nil _))⟩, trivial⟩
                · rw [hw1]; omega
                · rw [hw1]; show ((l.length + 1 : Nat) : Int) ≤ 3; omega
                · rw [hw1]; simp [cutL]
                · rw [Int.toNat_natCast]; simp
              refine ab 1000 rfl trivial ?_
              refine S_cond rfl (fun h => ?_) (fun h => by cases h)
              refine ab 1000 rfl trivial ?_
              exact S_retc .int rfl trivial (none (by omega))
            · exfalso
              have hm : ∀ i, (marks.getD i 0).toNat < 128 := by
                intro i
                match i with
                | 0 => decide
                | 1 => decide
                | 2 => decide
                | i + 3 => simp [marks]
              have h5 := hm ((l.length : Int)).toNat
              rw [Int.toNat_natCast] at h4 h5
              rw [show ((l ++ [x]).getD l.length 0) = x by simp] at h4
              omega
          · refine ab 1000 rfl trivial ?_
            exact S_retc .int rfl trivial (none (by omega))
theorem containsRune_ok (r : Int) : Calc cx 42 [.str marks, .int .i32 r] (.bool (decide (0 ≤ markAt r))) :=
  pure_intro (fun a w => Try.call42 a w) Try.func42 rfl Try.ntmps42 rfl .bool fun B => by
    refine ab 1000 rfl trivial ?_
    refine S_pure rfl rfl rfl (indexRune_ok r) (.cons (.refl .str) (.cons (.refl .int) (.nil _))) ?_
    refine ab 1000 rfl trivial ?_
    exact S_retc .bool rfl trivial rfl
end Go.Proofs.Ytopdpbcfgjijaaa
end
section
set_option linter.unusedVariables false
set_option linter.unusedSimpArgs false
set_option maxRecDepth 20000
namespace Go.Proofs.Ytopdpbcfgjijaaa
open Go Go.Ab
abbrev Nm := List UInt8
structure JE where
  name : Nm
  st : Int
  tried : Int
  till : List (Int × Int)
  jid : Nat
  tid : Nat
structure TM where
  last : Int
  tries : Int
  twins : Int
def tilK (l : List (Int × Int)) : List (AV × AV) := l.map fun p => (.int .i64 p.1, .int .i64 p.2)
def jobB (e : JE) : Box := .cells [.int .i64 e.st, .int .i64 e.tried, .map e.tid 0] ⟨false, some 65⟩
def entK (es : List JE) : List (AV × AV) := es.map fun e => (.str e.name, .ptr e.jid 0 0)
def bookB (t : TM) (now : Int) (mid : Nat) : Box := .cells [.int .i64 t.last, .int .i64 t.tries, .int .i64 t.twins, .int .i64 now, .map mid 0] ⟨false, some 59⟩
def idsJ (es : List JE) : List Nat := es.flatMap fun e => [e.jid, e.tid]
def idsL (q mid : Nat) (es : List JE) : List Nat := q :: mid :: idsJ es
abbrev MS := Option (List Nat × Nat)
structure LAt (σ : Heap) (q mid : Nat) (ms : MS) (t : TM) (now : Int) (es : List JE) : Prop where
  al : Alive σ
  qb : σ[q]? = some (0, some (bookB t now mid))
  mb : σ[mid]? = some (0, some (.map (entK es) ms))
  jb : ∀ e ∈ es, σ[e.jid]? = some (0, some (jobB e))
  tb : ∀ e ∈ es, σ[e.tid]? = some (0, some (.map (tilK e.till) none))
  nd : (idsL q mid es).Nodup
def OwnL (q mid : Nat) (es : List JE) (id : Nat) : Prop := id ∈ idsL q mid es
theorem mem_idsJ {es : List JE} {id : Nat} : id ∈ idsJ es ↔ ∃ e ∈ es, id = e.jid ∨ id = e.tid := by
  unfold idsJ
  rw [List.mem_flatMap]
  simp
theorem LAt.get {σ : Heap} {q mid : Nat} {ms : MS} {t : TM} {now : Int} {es : List JE} (h : LAt σ q mid ms t now es) {id : Nat} (ho : OwnL q mid es id) : ∃ y, σ[id]? = some y := by
  rcases List.mem_cons.1 ho with rfl | ho
  · exact ⟨_, h.qb⟩
  rcases List.mem_cons.1 ho with rfl | ho
  · exact ⟨_, h.mb⟩
  obtain ⟨e, he, rfl | rfl⟩ := mem_idsJ.1 ho
  · exact ⟨_, h.jb e he⟩
  · exact ⟨_, h.tb e he⟩
theorem LAt.lt {σ : Heap} {q mid : Nat} {ms : MS} {t : TM} {now : Int} {es : List JE} (h : LAt σ q mid ms t now es) (id : Nat) (ho : OwnL q mid es id) : id < σ.length := by
  obtain ⟨y, hy⟩ := h.get ho
  exact lt_of_get hy
theorem own_q {q mid : Nat} {es : List JE} : OwnL q mid es q := List.mem_cons_self ..
theorem own_m {q mid : Nat} {es : List JE} : OwnL q mid es mid := List.mem_cons_of_mem _ (List.mem_cons_self ..)
theorem own_j {q mid : Nat} {es : List JE} {e : JE} (he : e ∈ es) : OwnL q mid es e.jid := List.mem_cons_of_mem _ (List.mem_cons_of_mem _ (mem_idsJ.2 ⟨e, he, .inl rfl⟩))
theorem own_t {q mid : Nat} {es : List JE} {e : JE} (he : e ∈ es) : OwnL q mid es e.tid := List.mem_cons_of_mem _ (List.mem_cons_of_mem _ (mem_idsJ.2 ⟨e, he, .inr rfl⟩))
theorem LAt.mono {σ σ' : Heap} {q mid : Nat} {ms : MS} {t : TM} {now : Int} {es : List JE} (h : LAt σ q mid ms t now es) (ha : Alive σ') (hk : ∀ id, OwnL q mid es id → σ'[id]? = σ[id]?) : LAt σ' q mid ms t now es :=
  ⟨ha, (hk _ own_q).trans h.qb, (hk _ own_m).trans h.mb, fun e he => (hk _ (own_j he)).trans (h.jb e he), fun e he => (hk _ (own_t he)).trans (h.tb e he), h.nd⟩
theorem LAt.app {σ : Heap} {q mid : Nat} {ms : MS} {t : TM} {now : Int} {es : List JE} (h : LAt σ q mid ms t now es) (v : Nat) (b : Box) : LAt (σ ++ [(v, some b)]) q mid ms t now es :=
  h.mono (Alive.app h.al v b) fun id ho => List.getElem?_append_left (h.lt id ho)
theorem idsJ_inj : ∀ {es : List JE}, (idsJ es).Nodup → ∀ {i k : Nat} (hi : i < es.length) (hk : k < es.length), i ≠ k → es[i].jid ≠ es[k].jid ∧ es[i].jid ≠ es[k].tid ∧ es[i].tid ≠ es[k].jid ∧ es[i].tid ≠ es[k].tid
  | [], _, i, k, hi, _, _ => by cases hi
  | x :: r, h, i, k, hi, hk, hne => by
    have h0 : (x.jid :: x.tid :: idsJ r).Nodup := h
    obtain ⟨h1, h2⟩ := List.nodup_cons.1 h0
    obtain ⟨h3, h4⟩ := List.nodup_cons.1 h2
    have hx : ∀ j (hj : j < r.length), x.jid ≠ r[j].jid ∧ x.jid ≠ r[j].tid ∧ x.tid ≠ r[j].jid ∧ x.tid ≠ r[j].tid := fun j hj => by
      have m1 : r[j].jid ∈ idsJ r := mem_idsJ.2 ⟨_, List.getElem_mem hj, .inl rfl⟩
      have m2 : r[j].tid ∈ idsJ r := mem_idsJ.2 ⟨_, List.getElem_mem hj, .inr rfl⟩
      exact ⟨fun e => h1 (List.mem_cons_of_mem _ (e ▸ m1)), fun e => h1 (List.mem_cons_of_mem _ (e ▸ m2)), fun e => h3 (e ▸ m1), fun e => h3 (e ▸ m2)⟩
    match i, k, hi, hk, hne with
    | 0, 0, _, _, hne => exact absurd rfl hne
    | 0, k + 1, _, hk, _ => exact hx k (Nat.lt_of_succ_lt_succ hk)
    | i + 1, 0, hi, _, _ =>
      obtain ⟨a, b, c, d⟩ := hx i (Nat.lt_of_succ_lt_succ hi)
      exact ⟨a.symm, c.symm, b.symm, d.symm⟩
    | i + 1, k + 1, hi, hk, hne => exact idsJ_inj h4 (Nat.lt_of_succ_lt_succ hi) (Nat.lt_of_succ_lt_succ hk) (fun e => hne (by rw [e]))
theorem idsJ_one : ∀ {es : List JE}, (idsJ es).Nodup → ∀ e ∈ es, e.jid ≠ e.tid
  | [], _, e, he => by cases he
  | x :: r, h, e, he => by
    have h0 : (x.jid :: x.tid :: idsJ r).Nodup := h
    obtain ⟨h1, h2⟩ := List.nodup_cons.1 h0
    obtain ⟨_, h4⟩ := List.nodup_cons.1 h2
    rcases List.mem_cons.1 he with rfl | he
    · exact fun e => h1 (e ▸ List.mem_cons_self ..)
    · exact idsJ_one h4 e he
structure Ap5 (q mid : Nat) (e : JE) : Prop where
  jq : e.jid ≠ q
  jm : e.jid ≠ mid
  tq : e.tid ≠ q
  tm : e.tid ≠ mid
  jt : e.jid ≠ e.tid
theorem LAt.qm {σ : Heap} {q mid : Nat} {ms : MS} {t : TM} {now : Int} {es : List JE} (h : LAt σ q mid ms t now es) : q ≠ mid := fun e => (List.nodup_cons.1 h.nd).1 (e ▸ List.mem_cons_self ..)
theorem LAt.ndJ {σ : Heap} {q mid : Nat} {ms : MS} {t : TM} {now : Int} {es : List JE} (h : LAt σ q mid ms t now es) : (idsJ es).Nodup := (List.nodup_cons.1 (List.nodup_cons.1 h.nd).2).2
theorem LAt.ap {σ : Heap} {q mid : Nat} {ms : MS} {t : TM} {now : Int} {es : List JE} (h : LAt σ q mid ms t now es) {e : JE} (he : e ∈ es) : Ap5 q mid e := by
  obtain ⟨h1, h2⟩ := List.nodup_cons.1 h.nd
  obtain ⟨h3, h4⟩ := List.nodup_cons.1 h2
  have m1 : e.jid ∈ idsJ es := mem_idsJ.2 ⟨_, he, .inl rfl⟩
  have m2 : e.tid ∈ idsJ es := mem_idsJ.2 ⟨_, he, .inr rfl⟩
  exact ⟨fun x => h1 (List.mem_cons_of_mem _ (x ▸ m1)), fun x => h3 (x ▸ m1), fun x => h1 (List.mem_cons_of_mem _ (x ▸ m2)), fun x => h3 (x ▸ m2), idsJ_one h4 e he⟩
theorem idsJ_set {es : List JE} {i : Nat} (hi : i < es.length) {e : JE} (h1 : e.jid = es[i].jid) (h2 : e.tid = es[i].tid) : idsJ (es.set i e) = idsJ es := by
  have : (es.set i e).map (fun e => [e.jid, e.tid]) = es.map (fun e => [e.jid, e.tid]) := by
    rw [List.map_set, h1, h2]
    apply List.ext_getElem (by simp)
    intro j k1 k2
    rw [List.getElem_set]
    split
    · rename_i hij; subst hij; simp
    · rfl
  unfold idsJ
  rw [List.flatMap_def, List.flatMap_def, this]
theorem entK_set {es : List JE} {i : Nat} (hi : i < es.length) {e : JE} (h1 : e.jid = es[i].jid) (h2 : e.name = es[i].name) : entK (es.set i e) = entK es := by
  unfold entK
  rw [List.map_set, h1, h2]
  apply List.ext_getElem (by simp)
  intro j k1 k2
  rw [List.getElem_set]
  split
  · rename_i hij; subst hij; simp
  · rfl
theorem own_set {q mid : Nat} {es : List JE} {i : Nat} (hi : i < es.length) {e : JE} (h1 : e.jid = es[i].jid) (h2 : e.tid = es[i].tid) : OwnL q mid (es.set i e) = OwnL q mid es := by
  funext id
  unfold OwnL idsL
  rw [idsJ_set hi h1 h2]
theorem LAt.job {σ σ' : Heap} {q mid : Nat} {ms : MS} {t : TM} {now : Int} {es : List JE} (h : LAt σ q mid ms t now es) {i : Nat} (hi : i < es.length) (e : JE) (h1 : e.jid = es[i].jid) (h2 : e.tid = es[i].tid) (h3 : e.name = es[i].name) (ha : Alive σ')
    (hj : σ'[es[i].jid]? = some (0, some (jobB e))) (ht : σ'[es[i].tid]? = some (0, some (.map (tilK e.till) none))) (hk : ∀ id, OwnL q mid es id → id ≠ es[i].jid → id ≠ es[i].tid → σ'[id]? = σ[id]?) : LAt σ' q mid ms t now (es.set i e) := by
  have ap := h.ap (List.getElem_mem hi)
  refine ⟨ha, (hk _ own_q ap.jq.symm ap.tq.symm).trans h.qb, ?_, ?_, ?_, ?_⟩
  · rw [hk _ own_m ap.jm.symm ap.tm.symm, h.mb, entK_set hi h1 h3]
  · intro x hx
    obtain ⟨k, hk1, rfl⟩ := List.getElem_of_mem hx
    rw [List.getElem_set]
    have hk2 : k < es.length := by simpa using hk1
    split
    · rw [h1]; exact hj
    · rename_i hne
      obtain ⟨a1, a2, a3, a4⟩ := idsJ_inj h.ndJ hi hk2 hne
      rw [hk _ (own_j (List.getElem_mem hk2)) a1.symm a3.symm]
      exact h.jb _ (List.getElem_mem hk2)
  · intro x hx
    obtain ⟨k, hk1, rfl⟩ := List.getElem_of_mem hx
    rw [List.getElem_set]
    have hk2 : k < es.length := by simpa using hk1
    split
    · rw [h2]; exact ht
    · rename_i hne
      obtain ⟨a1, a2, a3, a4⟩ := idsJ_inj h.ndJ hi hk2 hne
      rw [hk _ (own_t (List.getElem_mem hk2)) a2.symm a4.symm]
      exact h.tb _ (List.getElem_mem hk2)
  · unfold idsL; rw [idsJ_set hi h1 h2]; exact h.nd
theorem findI (w : Int) : ∀ (l : List (Int × Int)) (i : Nat), findK (.int .i64 w) (tilK l) i = some ((l.findIdx? fun p => p.1 == w).map fun j => (i + j, AV.int .i64 ((l.getD j (0, 0)).2)))
  | [], i => rfl
  | p :: l, i => by
    show (match some (w == p.1) with
      | some true => some (some (i, AV.int .i64 p.2))
      | some false => findK (.int .i64 w) (tilK l) (i + 1)
      | none => none) = _
    by_cases h : p.1 = w
    · rw [show (w == p.1) = true by simp [h], List.findIdx?_cons, show (p.1 == w) = true by simp [h]]
      simp
    · rw [show (w == p.1) = false by simp [Ne.symm h], List.findIdx?_cons, show (p.1 == w) = false by simp [h]]
      show findK (.int .i64 w) (tilK l) (i + 1) = _
      rw [findI w l (i + 1)]
      cases hf : l.findIdx? fun p => p.1 == w with
      | none => rfl
      | some j =>
        simp only [Option.map_some, Bool.false_eq_true, if_false]
        rw [show i + 1 + j = i + (j + 1) by omega]
        simp
def hitI (l : List (Int × Int)) (w : Int) : Option (Nat × AV) := (l.findIdx? fun p => p.1 == w).map fun j => (j, AV.int .i64 ((l.getD j (0, 0)).2))
theorem findI0 (l : List (Int × Int)) (w : Int) : findK (.int .i64 w) (tilK l) 0 = some (hitI l w) := by
  rw [findI]; unfold hitI
  simp
theorem hitI_at {l : List (Int × Int)} (hn : (l.map Prod.fst).Nodup) {i : Nat} (hi : i < l.length) : hitI l l[i].1 = some (i, .int .i64 l[i].2) := by
  have hf : (l.findIdx? fun p => p.1 == l[i].1) = some i := by
    rw [List.findIdx?_eq_some_iff_getElem]
    refine ⟨hi, by simp, fun j hj => ?_⟩
    have hj2 : j < l.length := by omega
    simp only [beq_iff_eq]
    intro e
    have := nodup_inj hn (i := j) (k := i) (by simpa using hj2) (by simpa using hi) (by simpa using e)
    omega
  unfold hitI
  rw [hf]
  simp [List.getD, hi]
def atL (es : List JE) (s : Nm) : Option Nat := es.findIdx? fun e => e.name == s
theorem findE (s : Nm) : ∀ (es : List JE) (i : Nat), findK (.str s) (entK es) i = some ((atL es s).bind fun j => (es[j]?).map fun e => (i + j, AV.ptr e.jid 0 0))
  | [], i => rfl
  | e :: es, i => by
    show (match some (s == e.name) with
      | some true => some (some (i, AV.ptr e.jid 0 0))
      | some false => findK (.str s) (entK es) (i + 1)
      | none => none) = _
    unfold atL
    by_cases h : e.name = s
    · rw [show (s == e.name) = true by simp [h], List.findIdx?_cons, show (e.name == s) = true by simp [h]]
      simp
    · rw [show (s == e.name) = false by simp [Ne.symm h], List.findIdx?_cons, show (e.name == s) = false by simp [h]]
      show findK (.str s) (entK es) (i + 1) = _
      rw [findE s es (i + 1)]
      unfold atL
      cases hf : es.findIdx? fun e => e.name == s with
      | none => rfl
      | some j =>
        simp only [Option.map_some, Bool.false_eq_true, if_false, Option.bind_some]
        rw [show i + 1 + j = i + (j + 1) by omega]
        simp
def hitE (es : List JE) (s : Nm) : Option (Nat × AV) := (atL es s).bind fun j => (es[j]?).map fun e => (j, AV.ptr e.jid 0 0)
theorem findE0 (es : List JE) (s : Nm) : findK (.str s) (entK es) 0 = some (hitE es s) := by
  rw [findE]; unfold hitE
  simp
theorem atL_some {es : List JE} {s : Nm} {i : Nat} (h : atL es s = some i) : ∃ hi : i < es.length, es[i].name = s := by
  obtain ⟨hi, h1, _⟩ := List.findIdx?_eq_some_iff_getElem.1 h
  exact ⟨hi, by simpa using h1⟩
theorem hitE_some {es : List JE} {s : Nm} {i : Nat} (h : atL es s = some i) (hi : i < es.length) : hitE es s = some (i, .ptr es[i].jid 0 0) := by
  unfold hitE; rw [h]; simp [hi]
theorem hitE_none {es : List JE} {s : Nm} (h : atL es s = none) : hitE es s = none := by
  unfold hitE; rw [h]; rfl
def liv (now : Int) (l : List (Int × Int)) : List (Int × Int) := l.filter fun p => decide (¬ p.2 < now)
def frees (e : JE) : Bool := e.st == 2 && e.till.isEmpty
def freeE (tries : Int) (e : JE) : JE := if frees e then { e with st := if e.tried = tries then 4 else 1 } else e
def tillE (now : Int) (e : JE) : JE := { e with till := liv now e.till }
def tickE (tries now : Int) (e : JE) : JE := freeE tries (tillE now e)
def goneE (now : Int) (e : JE) : Bool := frees (tillE now e)
def goneL (now : Int) (es : List JE) : List Nm := sortT ((es.filter (goneE now)).map JE.name)
theorem freeE_jid (t : Int) (e : JE) : (freeE t e).jid = e.jid ∧ (freeE t e).tid = e.tid ∧ (freeE t e).name = e.name ∧ (freeE t e).till = e.till ∧ (freeE t e).tried = e.tried := by
  unfold freeE; split <;> exact ⟨rfl, rfl, rfl, rfl, rfl⟩
theorem tickE_jid (t n : Int) (e : JE) : (tickE t n e).jid = e.jid ∧ (tickE t n e).tid = e.tid ∧ (tickE t n e).name = e.name ∧ (tickE t n e).till = liv n e.till ∧ (tickE t n e).tried = e.tried := freeE_jid t (tillE n e)
end Go.Proofs.Ytopdpbcfgjijaaa
end
section
set_option linter.unusedVariables false
set_option linter.unusedSimpArgs false
namespace Go.Ab
open Go
section
variable {cx : Cx} {n : Nat} {B : Bs} {k : List AI} {Q : Post} {fr : Fr} {σ : Heap}
theorem OpSpec.lenG {o : Oper} {x : Operand} {t kt et : TypeId} {id ver : Nat} {kvs : List (AV × AV)} {st : Option (List Nat × Nat)} (ho : o.op = .call { callee := .builtin .len, args := #[x], argTypes := #[t] }) (ht : cx.P.underlying t = some (.map kt et))
    (hx : ev cx fr x = .map id ver) (hσ : σ[id]? = some (ver, some (.map kvs st))) : OpSpec cx n fr σ o (.int .i64 kvs.length) σ := by
  refine OpSpec.aop (C := [ver = ver]) ?_ ⟨rfl, trivial⟩
  rw [ho]
  show (match aLen cx.P t (ev cx fr x) σ with
    | some (C, v) => _
    | none => _) = _
  rw [hx]
  simp only [aLen, ht, hσ]
def gotV (z : AV) : Option (Nat × AV) → AV
  | some p => p.2
  | none => z
theorem OpSpec.lookG {o : Oper} {t kt et : TypeId} {m key : Operand} {ok : Bool} {id ver : Nat} {kvs : List (AV × AV)} {st : Option (List Nat × Nat)} {z a : AV} (h : Option (Nat × AV)) (ho : o.op = .lookup t m key ok) (ht : cx.P.underlying t = some (.map kt et)) (hkey : ev cx fr key = a) (hk : keyFits cx.P kt a = true)
    (hm : ev cx fr m = .map id ver) (hσ : σ[id]? = some (ver, some (.map kvs st))) (hf : findK a kvs 0 = some h) (hz : zeroV cx.P et = some z) {v : AV} (hv : okV ok (gotV z h) h.isSome = v) :
    OpSpec cx n fr σ o v σ := by
  subst hv
  refine OpSpec.map h (C := [ver = ver, findK (ev cx fr key) kvs 0 = some h]) ?_ ⟨rfl, by rw [hkey]; exact hf, trivial⟩
  rw [ho, mapA, ht, hkey]
  simp only [hk, hm, hσ]
  cases h with
  | none => simp only [hz]; rfl
  | some p => rfl
theorem OpSpec.putG {o : Oper} {t kt et : TypeId} {m key x : Operand} {id ver : Nat} {kvs : List (AV × AV)} {st : Option (List Nat × Nat)} {a v : AV} (h : Option (Nat × AV)) (ho : o.op = .mapUpdate t m key x) (ht : cx.P.underlying t = some (.map kt et)) (hkey : ev cx fr key = a) (hk : keyFits cx.P kt a = true)
    (hm : ev cx fr m = .map id ver) (hx : ev cx fr x = v) (hσ : σ[id]? = some (ver, some (.map kvs st))) (hf : findK a kvs 0 = some h) {σ' : Heap} (hσ' : σ.set id (ver, some (.map (setK kvs a v h) (setB st h))) = σ') :
    OpSpec cx n fr σ o (.tup []) σ' := by
  subst hσ'
  refine OpSpec.map h (C := [ver = ver, findK (ev cx fr key) kvs 0 = some h]) ?_ ⟨rfl, by rw [hkey]; exact hf, trivial⟩
  rw [ho, mapA, ht, hkey, hx]
  simp only [hk, hm, hσ]
theorem OpSpec.delG {o : Oper} {t u kt et : TypeId} {m key : Operand} {id ver : Nat} {kvs : List (AV × AV)} {st : Option (List Nat × Nat)} {a : AV} (h : Option (Nat × AV)) (ho : o.op = .call { callee := .builtin .delete, args := #[m, key], argTypes := #[t, u] }) (ht : cx.P.underlying t = some (.map kt et)) (hkey : ev cx fr key = a) (hk : keyFits cx.P kt a = true)
    (hm : ev cx fr m = .map id ver) (hσ : σ[id]? = some (ver, some (.map kvs st))) (hf : findK a kvs 0 = some h) {σ' : Heap} (hσ' : σ.set id (ver, some (.map (delK kvs h) (delB st h))) = σ') :
    OpSpec cx n fr σ o (.tup []) σ' := by
  subst hσ'
  refine OpSpec.map h (C := [ver = ver, findK (ev cx fr key) kvs 0 = some h]) ?_ ⟨rfl, by rw [hkey]; exact hf, trivial⟩
  rw [ho, mapA]
  simp only [ht, hk, hm, hσ, hkey]
theorem OpSpec.clearG {o : Oper} {t kt et : TypeId} {m : Operand} {id ver : Nat} {kvs : List (AV × AV)} {st : Option (List Nat × Nat)} (ho : o.op = .call { callee := .builtin .clear, args := #[m], argTypes := #[t] }) (ht : cx.P.underlying t = some (.map kt et))
    (hm : ev cx fr m = .map id ver) (hσ : σ[id]? = some (ver, some (.map kvs st))) {σ' : Heap} (hσ' : σ.set id (ver, some (.map [] (clrB st))) = σ') : OpSpec cx n fr σ o (.tup []) σ' := by
  subst hσ'
  refine OpSpec.mapN (C := [ver = ver]) ?_ ⟨rfl, trivial⟩
  rw [ho, Ab.mapN]
  simp only [ht, hm, hσ]
theorem OpSpec.rangeG {o : Oper} {t kt et : TypeId} {m : Operand} {id ver c : Nat} {kvs : List (AV × AV)} {bs : List Nat} (hal : Alive σ) (ho : o.op = .range t m) (ht : cx.P.underlying t = some (.map kt et))
    (hm : ev cx fr m = .map id ver) (hσ : σ[id]? = some (ver, some (.map kvs (some (bs, c))))) {σ' : Heap} (hσ' : σ ++ [(0, some (.miter id ver c [] c))] = σ') : OpSpec cx n fr σ o (.ptr σ.length 0 0) σ' := by
  subst hσ'
  refine OpSpec.mapN (C := [ver = ver]) ?_ ⟨rfl, trivial⟩
  rw [ho, Ab.mapN]
  simp only [ht, hm, hσ, hal.alloc]
theorem OpSpec.makeG {o : Oper} {t : TypeId} (hal : Alive σ) (ho : o.op = .makeMap t none) : OpSpec cx n fr σ o (.map σ.length 0) (σ ++ [(0, some (.map [] none))]) := by
  have h1 : OpSpec cx n fr σ o (.map σ.length 0) (σ ++ [(0, some (.map [] (some ([], 0))))]) := by
    refine OpSpec.mapN (C := []) ?_ trivial
    rw [ho, Ab.mapN]
    simp only [hal.alloc]
  intro r a w hi hf
  obtain ⟨r', w', v', q1, q2, q3, q4⟩ := h1 r a w hi hf
  obtain ⟨p1, p2⟩ := q3.recast (id := σ.length) (cur := 0) (x := .map [] (some ([], 0))) (y := .map [] none) (by simp) (fun b' o hb' => by
    obtain ⟨rfl, es, clock, h1, h2⟩ := hb'
    exact ⟨rfl, es, clock, h1, MapIs.noB h2⟩) (fun ro hro => by cases hro)
  have e : (σ ++ [((0, some (.map [] (some ([], 0)))) : Nat × Option Box)]).set σ.length (0, some (.map [] none)) = σ ++ [(0, some (.map [] none))] := by
    rw [List.set_append_right _ _ (Nat.le_refl _), Nat.sub_self]; rfl
  rw [e] at p1 p2
  exact ⟨r', w', v', q1, q2, p1, q4.trans p2⟩
end
end Go.Ab
end
section
set_option linter.unusedVariables false
set_option linter.unusedSimpArgs false
set_option maxRecDepth 20000
set_option maxHeartbeats 2000000
namespace Go.Proofs.Ytopdpbcfgjijaaa
open Go Go.Ab
def witB (n a b : Int) : Bool := decide (n ≥ a) && decide (n ≤ b)
theorem within_ok (n a b : Int) : Calc cx 26 [.int .i64 n, .int .i64 a, .int .i64 b] (.bool (witB n a b)) :=
  pure_intro (fun a w => Try.call26 a w) Try.func26 rfl Try.ntmps26 rfl .bool fun B => by
    unfold witB
    cases h : decide (n ≥ a) with
    | true =>
      refine pB [.b true] rfl ?_
      refine S_retc .bool rfl trivial ?_
      rfl
    | false =>
      refine pB [.b false] rfl ?_
      refine S_retc .bool rfl trivial ?_
      rfl
def wrkB (n : Int) : Bool := !witB n 1 50
theorem time1_ok (n : Int) : Calc cx 44 [.int .i64 n] (.bool (wrkB n)) :=
  pure_intro (fun a w => Try.call44 a w) Try.func44 rfl Try.ntmps44 rfl .bool fun B => by
    have h := within_ok n 1 50
    refine pa [.v (.bool (witB n 1 50))] rfl ?_ ?_
    · (repeat' with_reducible apply AllP_cons) <;> try exact aC
      · exact ⟨_, h, .cons (.refl .int) (.cons (.refl .int) (.cons (.refl .int) (.nil _)))⟩
    exact S_retc .bool rfl trivial rfl
def intsA (l : List Int) : List AV := l.map (AV.int .i64)
theorem intsA_any {st : Bool} (l : List Int) : ∀ x ∈ intsA l, Free st x := by
  intro x hx
  obtain ⟨y, _, rfl⟩ := List.mem_map.1 hx
  exact .int
theorem IndexFuncI_ok {st fl : Bool} (g : FuncId) (P : Int → Bool) (l : List Int) (hg : ∀ s ∈ l, Calc cx g ([] ++ [.int .i64 s] ++ []) (.bool (P s))) (hl : l.length ≤ 1000000000000) : Calc cx 51 [.sl st fl 1 (intsA l), .func (.func g) [] []] (.int .i64 (match l.findIdx? P with | some i => (i : Int) | none => -1)) :=
  pure_intro (fun a w => Try.call51 a w) Try.func51 rfl Try.ntmps51 rfl .int fun B => by
    have htl : (intsA l).length = l.length := by simp [intsA]
    refine pB [] rfl ?_
    refine S_while (α := Nat) (fun i => [(0, .sl st fl 1 (intsA l)), (1, .func (.func g) [] []), (7, .int .i64 (((intsA l).length : Nat) : Int)), (8, .int .i64 (i : Nat))]) (fun _ => []) (fun i => i ≤ l.length ∧ ∀ k (hk : k < l.length), k < i → P l[k] = false) (fun i => l.length - i) 0
      ⟨Nat.zero_le _, fun k hk h => absurd h (Nat.not_lt_zero _)⟩ (.cons rfl (.cons rfl (.cons rfl (.cons rfl (.nil _))))) rfl ?_
    rintro i ⟨hi, hN⟩
    have hi : i ≤ l.length := hi
    by_cases hlt : i < l.length
    · have e1 : decide ((i : Int) < (((intsA l).length : Nat) : Int)) = true := decide_eq_true (by omega)
      have g1 : (intsA l)[(i : Int).toNat]? = some (.int .i64 l[i]) := by rw [Int.toNat_natCast]; simp [intsA, List.getElem?_eq_getElem hlt]
      have hF := hg l[i] (List.getElem_mem hlt)
      cases hb : P l[i] with
      | true =>
        rw [hb] at hF
        refine pa [.b true, .v (.int .i64 l[i]), .v (.bool true), .b true] rfl ?_ ?_
        · (repeat' with_reducible apply AllP_cons) <;> try exact aC
          · exact ⟨_, hF, .cons (.refl .int) (.nil _)⟩
        refine S_retc .int rfl trivial ?_
        have : l.findIdx? P = some i := by
          rw [List.findIdx?_eq_some_iff_getElem]
          exact ⟨hlt, by simpa using hb, fun j hj => by have := hN j (by omega) hj; simpa using this⟩
        rw [this]; rfl
      | false =>
        rw [hb] at hF
        refine pa [.b true, .v (.int .i64 l[i]), .v (.bool false), .b false] rfl ?_ ?_
        · (repeat' with_reducible apply AllP_cons) <;> try exact aC
          · exact ⟨_, hF, .cons (.refl .int) (.nil _)⟩
        refine S_round (i + 1) (by show l.length - (i + 1) < l.length - i; omega) ⟨hlt, fun k hk h => ?_⟩ (.cons rfl (.cons rfl (.cons rfl (.cons (nX (by omega)) (.nil _))))) rfl
        have h : k < i + 1 := h
        by_cases hki : k < i
        · exact hN k hk hki
        · have : k = i := by omega
          subst this; exact hb
    · have e1 : decide ((i : Int) < (((intsA l).length : Nat) : Int)) = false := decide_eq_false (by omega)
      refine pB [.b false] rfl ?_
      refine S_retc .int rfl trivial ?_
      have : l.findIdx? P = none := by
        rw [List.findIdx?_eq_none_iff]
        intro x hx
        obtain ⟨k, hk, rfl⟩ := List.getElem_of_mem hx
        have := hN k hk (by omega)
        simpa using this
      rw [this]; rfl
theorem ContainsFuncI_ok {st fl : Bool} (g : FuncId) (P : Int → Bool) (l : List Int) (hg : ∀ s ∈ l, Calc cx g ([] ++ [.int .i64 s] ++ []) (.bool (P s))) (hl : l.length ≤ 1000000000000) : Calc cx 43 [.sl st fl 1 (intsA l), .func (.func g) [] []] (.bool (l.any P)) :=
  pure_intro (fun a w => Try.call43 a w) Try.func43 rfl Try.ntmps43 rfl .bool fun B => by
    have hI := IndexFuncI_ok (st := st) (fl := fl) g P l hg hl
    refine pa [.v (.int .i64 (match l.findIdx? P with | some i => (i : Int) | none => -1))] rfl ?_ ?_
    · (repeat' with_reducible apply AllP_cons) <;> try exact aC
      · exact ⟨_, hI, .cons (.refl (.sl (fun h => by cases h) (intsA_any l))) (.cons (.refl (.func (fun x h => by cases h) (fun x h => by cases h))) (.nil _))⟩
    refine S_retc .bool rfl trivial ?_
    show AV.bool (decide ((match l.findIdx? P with | some i => (i : Int) | none => -1) ≥ 0)) = _
    congr 1
    cases h : l.findIdx? P with
    | none =>
      rw [List.findIdx?_eq_none_iff] at h
      rw [List.any_eq_false.2 (fun x hx => by have := h x hx; rw [this]; simp)]; rfl
    | some i =>
      rw [List.findIdx?_eq_some_iff_getElem] at h
      obtain ⟨h1, h2, _⟩ := h
      rw [List.any_eq_true.2 ⟨_, List.getElem_mem h1, h2⟩]
      show decide ((i : Int) ≥ 0) = true
      exact decide_eq_true (by omega)
theorem bad_ok {st fl : Bool} (l : List Int) (hl : l.length ≤ 1000000000000) : Calc cx 43 [.sl st fl 1 (intsA l), .func (.func 44) [] []] (.bool (l.any wrkB)) :=
  ContainsFuncI_ok _ wrkB l (fun s _ => time1_ok s) hl
theorem free_ok (σ : Heap) (q mid : Nat) (ms : MS) (t : TM) (now : Int) (es : List JE) (h : LAt σ q mid ms t now es) (i : Nat) (hi : i < es.length) :
    CallOk cx 33 [.ptr q 0 0, .ptr es[i].jid 0 0] σ (fun o s => o = .ret (.bool (frees es[i])) ∧ s = σ.set es[i].jid (0, some (jobB (freeE t.tries es[i])))) :=
  callOk_intro (fun a w => Try.call33 a w) Try.func33 rfl Try.ntmps33 rfl fun B => by
    have hm := List.getElem_mem hi
    generalize es[i] = e at *
    have hj := h.jb e hm
    have ht := h.tb e hm
    have ap := h.ap hm
    have hsame : ∀ s : Heap, s[e.jid]? = some (0, some (jobB e)) → s = s.set e.jid (0, some (jobB e)) := fun s hs => by
      apply List.ext_getElem?
      intro k
      rw [List.getElem?_set]
      split
      · rename_i hk; subst hk
        rw [if_pos (lt_of_get hs), hs]
      · rfl
    by_cases c1 : e.st = 2
    · have c2 : (e.st != 2) = false := by simp [c1]
      refine pao [.v (.int .i64 e.st), .b false, .v (.map e.tid 0), .s] rfl ?_ ?_
      · (repeat' with_reducible apply AllP_cons) <;> try exact aC
        · exact OpSpec.loadP rfl rfl rfl rfl hj rfl
        · exact OpSpec.loadP rfl rfl rfl rfl hj rfl
      have htl : (tilK e.till).length = e.till.length := by simp [tilK]
      by_cases c3 : e.till = []
      · have hf : frees e = true := by unfold frees; rw [c1, c3]; rfl
        have c4 : decide ((((tilK e.till).length : Nat) : Int) > 0) = false := by rw [htl, c3]; rfl
        obtain ⟨J1, hJ1⟩ : ∃ J1 : Nat × Option Box, J1 = (0, some (jobB { e with st := 1 })) := ⟨_, rfl⟩
        refine pao [.o (.int .i64 (tilK e.till).length) (fun s => s), .b false, .f (.tup []) (fun s => s.set e.jid J1)] rfl ?_ ?_
        · (repeat' with_reducible apply AllP_cons) <;> try exact aC
          · exact OpSpec.lenG rfl rfl rfl ht
          · exact OpSpec.storeP (id := e.jid) (gT := some 65) (cs := [.int .i64 e.st, .int .i64 e.tried, .map e.tid 0]) rfl rfl rfl rfl rfl rfl hj (lble rfl) (by rw [hJ1]; rfl)
        have hj1 : (σ.set e.jid J1)[e.jid]? = some (0, some (jobB { e with st := 1 })) := by rw [set_eq hj, hJ1]
        have hq1 : (σ.set e.jid J1)[q]? = some (0, some (bookB t now mid)) := by rw [set_ne ap.jq.symm]; exact h.qb
        refine S_drawO 10 [.int .i64 e.tried, .int .i64 t.tries] rfl rfl rfl rfl ?_ ?_
        · (repeat' with_reducible apply AllP_cons) <;> try exact aC
          · exact OpSpec.loadP rfl rfl rfl rfl hj1 rfl
          · exact OpSpec.loadP rfl rfl rfl rfl hq1 rfl
        by_cases c5 : e.tried = t.tries
        · have c6 : (e.tried == t.tries) = true := by simp [c5]
          obtain ⟨J2, hJ2⟩ : ∃ J2 : Nat × Option Box, J2 = (0, some (jobB { e with st := 4 })) := ⟨_, rfl⟩
          refine pao [.b true, .f (.tup []) (fun s => s.set e.jid J2)] rfl ?_ ?_
          · (repeat' with_reducible apply AllP_cons) <;> try exact aC
            · exact OpSpec.storeP (id := e.jid) (gT := some 65) (cs := [.int .i64 1, .int .i64 e.tried, .map e.tid 0]) rfl rfl rfl rfl rfl rfl hj1 (lble rfl) (by rw [hJ2]; rfl)
          refine S_ret ⟨_, _, rfl, trivial, ?_, ?_⟩
          · rw [hf]; rfl
          · show (σ.set e.jid J1).set e.jid J2 = _
            rw [List.set_set, hJ2]
            have : freeE t.tries e = { e with st := 4 } := by unfold freeE; rw [hf, if_pos rfl, if_pos c5]
            rw [this]
        · have c6 : (e.tried == t.tries) = false := by simp [c5]
          refine pao [.b false] rfl ?_ ?_
          · (repeat' with_reducible apply AllP_cons) <;> try exact aC
          refine S_ret ⟨_, _, rfl, trivial, ?_, ?_⟩
          · rw [hf]; rfl
          · show σ.set e.jid J1 = _
            have : freeE t.tries e = { e with st := 1 } := by unfold freeE; rw [hf, if_pos rfl, if_neg c5]
            rw [this, hJ1]
      · have hf : frees e = false := by unfold frees; simp [c3]
        have c4 : decide ((((tilK e.till).length : Nat) : Int) > 0) = true := by
          have := List.length_pos_iff.2 c3
          exact decide_eq_true (by omega)
        refine pao [.o (.int .i64 (tilK e.till).length) (fun s => s), .b true] rfl ?_ ?_
        · (repeat' with_reducible apply AllP_cons) <;> try exact aC
          · exact OpSpec.lenG rfl rfl rfl ht
        refine S_ret ⟨_, _, rfl, trivial, ?_, ?_⟩
        · rw [hf]; rfl
        · unfold freeE; rw [hf]; exact hsame σ hj
    · have c2 : (e.st != 2) = true := by simp [c1]
      have hf : frees e = false := by unfold frees; simp [c1]
      refine pao [.v (.int .i64 e.st), .b true, .b true] rfl ?_ ?_
      · (repeat' with_reducible apply AllP_cons) <;> try exact aC
        · exact OpSpec.loadP rfl rfl rfl rfl hj rfl
      refine S_ret ⟨_, _, rfl, trivial, ?_, ?_⟩
      · rw [hf]; rfl
      · unfold freeE; rw [hf]; exact hsame σ hj
end Go.Proofs.Ytopdpbcfgjijaaa
end
section
set_option linter.unusedVariables false
set_option linter.unusedSimpArgs false
set_option maxRecDepth 20000
namespace Go.Proofs.Ytopdpbcfgjijaaa
open Go Go.Ab
theorem set_self {σ : Heap} {i : Nat} {x : Nat × Option Box} (h : σ[i]? = some x) : σ.set i x = σ := by
  apply List.ext_getElem?
  intro k
  rw [List.getElem?_set]
  split
  · rename_i hk; subst hk
    rw [if_pos (lt_of_get h), h]
  · rfl
theorem LAt.stamp {σ : Heap} {q mid : Nat} {ms : MS} {t : TM} {now : Int} {es : List JE} (h : LAt σ q mid ms t now es) (ms' : MS) : LAt (σ.set mid (0, some (.map (entK es) ms'))) q mid ms' t now es := by
  have hq := h.qm
  refine ⟨Alive.set h.al _ _ _, by rw [set_ne hq]; exact h.qb, set_eq h.mb, fun e he => ?_, fun e he => ?_, h.nd⟩
  · rw [set_ne (h.ap he).jm]; exact h.jb e he
  · rw [set_ne (h.ap he).tm]; exact h.tb e he
theorem LAt.now {σ : Heap} {q mid : Nat} {ms : MS} {t : TM} {now : Int} {es : List JE} (h : LAt σ q mid ms t now es) (n : Int) : LAt (σ.set q (0, some (bookB t n mid))) q mid ms t n es := by
  have hq := h.qm
  refine ⟨Alive.set h.al _ _ _, set_eq h.qb, by rw [set_ne hq.symm]; exact h.mb, fun e he => ?_, fun e he => ?_, h.nd⟩
  · rw [set_ne (h.ap he).jq]; exact h.jb e he
  · rw [set_ne (h.ap he).tq]; exact h.tb e he
theorem lk : ∀ (bs : List Nat) (es : List JE), bs.length = es.length → bs.Nodup → ∀ i (h1 : i < bs.length) (h2 : i < es.length), (bs.zip es).lookup bs[i] = some es[i]
  | b :: bs, e :: es, hl, hn, 0, _, _ => by simp [List.zip_cons_cons, List.lookup_cons]
  | b :: bs, e :: es, hl, hn, i + 1, h1, h2 => by
    obtain ⟨hb, hn⟩ := List.nodup_cons.1 hn
    have hi : i < bs.length := Nat.lt_of_succ_lt_succ h1
    have hne : (bs[i] == b) = false := by
      simp only [beq_eq_false_iff_ne, ne_eq]
      rintro rfl
      exact hb (List.getElem_mem hi)
    rw [List.zip_cons_cons, List.lookup_cons, List.getElem_cons_succ, List.getElem_cons_succ, hne]
    exact lk bs es (by simpa using hl) hn i hi (Nat.lt_of_succ_lt_succ h2)
theorem fmc {α β : Type} {f g : α → Option β} : ∀ {l : List α}, (∀ x ∈ l, f x = g x) → l.filterMap f = l.filterMap g
  | [], _ => rfl
  | x :: r, h => by rw [List.filterMap_cons, List.filterMap_cons, h x (List.mem_cons_self ..), fmc fun y hy => h y (List.mem_cons_of_mem _ hy)]
theorem lkF (f : JE → Option Nm) : ∀ (bs : List Nat) (es : List JE), bs.length = es.length → bs.Nodup → bs.filterMap (fun b => ((bs.zip es).lookup b).bind f) = es.filterMap f
  | [], [], _, _ => rfl
  | [], e :: es, hl, _ => by cases hl
  | b :: bs, [], hl, _ => by cases hl
  | b :: bs, e :: es, hl, hn => by
    obtain ⟨hb, hn⟩ := List.nodup_cons.1 hn
    have ih := lkF f bs es (by simpa using hl) hn
    have hc : bs.filterMap (fun x => (((b :: bs).zip (e :: es)).lookup x).bind f) = bs.filterMap (fun x => ((bs.zip es).lookup x).bind f) := by
      refine fmc fun x hx => ?_
      have hne : (x == b) = false := by
        simp only [beq_eq_false_iff_ne, ne_eq]
        rintro rfl
        exact hb hx
      rw [List.zip_cons_cons, List.lookup_cons, hne]
    rw [List.filterMap_cons, hc, ih, List.filterMap_cons]
    have : ((b :: bs).zip (e :: es)).lookup b = some e := by simp [List.zip_cons_cons, List.lookup_cons]
    rw [this]; rfl
def goneN (n : Int) (e : JE) : Option Nm := if goneE n e then some e.name else none
theorem goneF (n : Int) : ∀ es : List JE, es.filterMap (goneN n) = (es.filter (goneE n)).map JE.name
  | [] => rfl
  | e :: es => by
    rw [List.filterMap_cons, List.filter_cons]
    unfold goneN
    cases h : goneE n e with
    | true => simp only [if_true, List.map_cons]; rw [← goneF n es]; rfl
    | false => simp only [Bool.false_eq_true, if_false]; rw [← goneF n es]; rfl
def curJ (f : JE → JE) (sn : List Nat) (bs : List Nat) (es : List JE) : List JE := (bs.zip es).map fun p => if p.1 ∈ sn then f p.2 else p.2
theorem curJ_len (f : JE → JE) (sn bs : List Nat) (es : List JE) (hl : bs.length = es.length) : (curJ f sn bs es).length = es.length := by
  unfold curJ; rw [List.length_map, List.length_zip, hl, Nat.min_self]
theorem curJ_at (f : JE → JE) (sn bs : List Nat) (es : List JE) (hl : bs.length = es.length) (i : Nat) (h : i < es.length) (h' : i < (curJ f sn bs es).length) (h2 : i < bs.length) : (curJ f sn bs es)[i] = if bs[i] ∈ sn then f es[i] else es[i] := by
  have hz : i < (bs.zip es).length := by rw [List.length_zip]; omega
  have : (curJ f sn bs es)[i]? = some (if bs[i] ∈ sn then f es[i] else es[i]) := by
    unfold curJ
    rw [List.getElem?_map, List.getElem?_eq_getElem hz, List.getElem_zip]; rfl
  rw [List.getElem?_eq_getElem h'] at this
  exact Option.some.inj this
theorem curJ_nil (f : JE → JE) (bs : List Nat) (es : List JE) (hl : bs.length = es.length) : curJ f [] bs es = es := by
  apply List.ext_getElem (curJ_len _ _ _ _ hl)
  intro i h1 h2
  rw [curJ_at f [] bs es hl i h2 h1 (by omega)]
  simp
theorem curJ_all (f : JE → JE) (sn bs : List Nat) (es : List JE) (hl : bs.length = es.length) (h : ∀ b ∈ bs, b ∈ sn) : curJ f sn bs es = es.map f := by
  apply List.ext_getElem (by rw [curJ_len _ _ _ _ hl, List.length_map])
  intro i h1 h2
  have h3 : i < es.length := by simpa using h2
  rw [curJ_at f sn bs es hl i h3 h1 (by omega), if_pos (h _ (List.getElem_mem _)), List.getElem_map]
theorem curJ_set (f : JE → JE) (sn bs : List Nat) (es : List JE) (hl : bs.length = es.length) (hn : bs.Nodup) (i : Nat) (hi : i < es.length) (hb : i < bs.length) (hs : bs[i] ∉ sn) : (curJ f sn bs es).set i (f es[i]) = curJ f (sn ++ [bs[i]]) bs es := by
  apply List.ext_getElem (by rw [List.length_set, curJ_len _ _ _ _ hl, curJ_len _ _ _ _ hl])
  intro k h1 h2
  have hk : k < es.length := by rw [curJ_len _ _ _ _ hl] at h2; exact h2
  have hkb : k < bs.length := by omega
  rw [curJ_at f _ bs es hl k hk h2 hkb, List.getElem_set]
  by_cases e : i = k
  · subst e
    rw [if_pos rfl, if_pos (by simp)]
  · rw [if_neg e, curJ_at f _ bs es hl k hk (by rw [curJ_len _ _ _ _ hl]; exact hk) hkb]
    have : bs[k] ≠ bs[i] := fun x => e (nodup_inj hn hkb hb x).symm
    by_cases hm : bs[k] ∈ sn
    · rw [if_pos hm, if_pos (List.mem_append_left _ hm)]
    · rw [if_neg hm, if_neg (by simp [hm, this])]
theorem curJ_ids (f : JE → JE) (hf : ∀ e, (f e).jid = e.jid ∧ (f e).tid = e.tid ∧ (f e).name = e.name) (sn bs : List Nat) (es : List JE) (hl : bs.length = es.length) : idsJ (curJ f sn bs es) = idsJ es ∧ entK (curJ f sn bs es) = entK es := by
  have hat : ∀ i (h1 : i < (curJ f sn bs es).length) (h2 : i < es.length), (curJ f sn bs es)[i].jid = es[i].jid ∧ (curJ f sn bs es)[i].tid = es[i].tid ∧ (curJ f sn bs es)[i].name = es[i].name := fun i h1 h2 => by
    rw [curJ_at f sn bs es hl i h2 h1 (by omega)]
    split
    · exact hf _
    · exact ⟨rfl, rfl, rfl⟩
  refine ⟨?_, ?_⟩
  · unfold idsJ
    rw [List.flatMap_def, List.flatMap_def]
    congr 1
    apply List.ext_getElem (by simp [curJ_len _ _ _ _ hl])
    intro i h1 h2
    have h3 : i < (curJ f sn bs es).length := by simpa using h1
    have h4 : i < es.length := by simpa using h2
    rw [List.getElem_map, List.getElem_map, (hat i h3 h4).1, (hat i h3 h4).2.1]
  · unfold entK
    apply List.ext_getElem (by simp [curJ_len _ _ _ _ hl])
    intro i h1 h2
    have h3 : i < (curJ f sn bs es).length := by simpa using h1
    have h4 : i < es.length := by simpa using h2
    rw [List.getElem_map, List.getElem_map, (hat i h3 h4).1, (hat i h3 h4).2.2]
abbrev TR := List (Nat × Int × Int)
def trK (tr : TR) : List (Int × Int) := tr.map Prod.snd
def trB (tr : TR) : List Nat := tr.map Prod.fst
structure TrI (n : Int) (l0 : List (Int × Int)) (c : Nat) (sn : List Nat) (tr : TR) : Prop where
  sd : ∀ p ∈ tr, p.1 ∈ sn → ¬ p.2.2 < n
  lv : liv n (trK tr) = liv n l0
  nb : (trB tr).Nodup
  nk : ((trK tr).map Prod.fst).Nodup
  lt : ∀ x ∈ trB tr, x < c
theorem TrI.start {n : Int} {l0 : List (Int × Int)} {c : Nat} {bs : List Nat} (hl : bs.length = l0.length) (hn : bs.Nodup) (hc : ∀ x ∈ bs, x < c) (hk : (l0.map Prod.fst).Nodup) : TrI n l0 c [] (bs.zip l0) ∧ trK (bs.zip l0) = l0 ∧ trB (bs.zip l0) = bs := by
  have h1 : trK (bs.zip l0) = l0 := List.map_snd_zip (by omega)
  have h2 : trB (bs.zip l0) = bs := List.map_fst_zip (by omega)
  exact ⟨⟨(fun p _ h => by cases h), (by rw [h1]), (by rw [h2]; exact hn), (by rw [h1]; exact hk), (by rw [h2]; exact hc)⟩, h1, h2⟩
theorem TrI.keep {n : Int} {l0 : List (Int × Int)} {c : Nat} {sn : List Nat} {tr : TR} (h : TrI n l0 c sn tr) {i : Nat} (hi : i < tr.length) (hs : ¬ tr[i].2.2 < n) : TrI n l0 c (sn ++ [tr[i].1]) tr :=
  ⟨fun p hp hm => by
    rcases List.mem_append.1 hm with hm | hm
    · exact h.sd p hp hm
    · obtain ⟨k, hk, rfl⟩ := List.getElem_of_mem hp
      have e : tr[k].1 = tr[i].1 := by simpa using hm
      have := nodup_inj h.nb (i := k) (k := i) (by simpa [trB] using hk) (by simpa [trB] using hi) (by simpa [trB] using e)
      subst this; exact hs, h.lv, h.nb, h.nk, h.lt⟩
theorem filter_eraseIdx {α : Type} (p : α → Bool) : ∀ (l : List α) (i : Nat) (h : i < l.length), p l[i] = false → (l.eraseIdx i).filter p = l.filter p
  | x :: r, 0, _, h => by
    have h : p x = false := h
    rw [List.eraseIdx_cons_zero, List.filter_cons_of_neg (by rw [h]; simp)]
  | x :: r, i + 1, hi, h => by
    have ih := filter_eraseIdx p r i (Nat.lt_of_succ_lt_succ hi) h
    rw [List.eraseIdx_cons_succ, List.filter_cons, List.filter_cons, ih]
theorem TrI.del {n : Int} {l0 : List (Int × Int)} {c : Nat} {sn : List Nat} {tr : TR} (h : TrI n l0 c sn tr) {i : Nat} (hi : i < tr.length) (hs : tr[i].2.2 < n) : TrI n l0 c (sn ++ [tr[i].1]) (tr.eraseIdx i) := by
  have hk : trK (tr.eraseIdx i) = (trK tr).eraseIdx i := (eraseIdx_map' _ _ _).symm
  have hb : trB (tr.eraseIdx i) = (trB tr).eraseIdx i := (eraseIdx_map' _ _ _).symm
  refine ⟨fun p hp hm => ?_, ?_, ?_, ?_, fun x hx => ?_⟩
  · rcases List.mem_append.1 hm with hm | hm
    · exact h.sd p (List.mem_of_mem_eraseIdx hp) hm
    · exfalso
      have e : p.1 = tr[i].1 := by simpa using hm
      have hmem : p.1 ∈ (trB tr).eraseIdx i := by rw [← hb]; exact List.mem_map_of_mem hp
      have hi2 : i < (trB tr).length := by simpa [trB] using hi
      have hp2 := (getErase hi2).nodup_iff.2 h.nb
      have := (List.nodup_cons.1 hp2).1
      apply this
      have e2 : (trB tr)[i] = tr[i].1 := by simp [trB]
      rw [e2, ← e]; exact hmem
  · rw [hk, ← h.lv]
    have hi2 : i < (trK tr).length := by simpa [trK] using hi
    exact filter_eraseIdx _ _ _ hi2 (by simp [trK, hs])
  · rw [hb]; exact h.nb.sublist (List.eraseIdx_sublist ..)
  · rw [hk, ← eraseIdx_map']; exact h.nk.sublist (List.eraseIdx_sublist ..)
  · rw [hb] at hx; exact h.lt x (List.mem_of_mem_eraseIdx hx)
theorem TrI.done {n : Int} {l0 : List (Int × Int)} {c : Nat} {sn : List Nat} {tr : TR} (h : TrI n l0 c sn tr) (ha : ∀ b ∈ trB tr, b ∈ sn) : trK tr = liv n l0 := by
  rw [← h.lv]
  unfold liv
  rw [List.filter_eq_self.2]
  intro p hp
  obtain ⟨x, hx, rfl⟩ := List.mem_map.1 hp
  exact decide_eq_true (h.sd x hx (ha _ (List.mem_map_of_mem hx)))
def trM (sn : List Nat) (tr : TR) : Nat := (tr.filter fun p => decide (p.1 ∉ sn)).length
theorem filt_lt {α : Type} {p q : α → Bool} (hpq : ∀ x, p x = true → q x = true) : ∀ (l : List α) (i : Nat) (h : i < l.length), p l[i] = false → q l[i] = true → (l.filter p).length < (l.filter q).length
  | x :: r, 0, _, h1, h2 => by
    have h1 : p x = false := h1
    have h2 : q x = true := h2
    rw [List.filter_cons_of_neg (by rw [h1]; simp), List.filter_cons_of_pos h2, List.length_cons]
    have : ∀ l : List α, (l.filter p).length ≤ (l.filter q).length := fun l => by
      induction l with
      | nil => exact Nat.le_refl _
      | cons y l ih =>
        rw [List.filter_cons, List.filter_cons]
        cases hp : p y with
        | true => rw [hpq y hp]; simpa using ih
        | false => cases q y <;> simp <;> omega
    have := this r
    omega
  | x :: r, i + 1, hi, h1, h2 => by
    have ih := filt_lt hpq r i (Nat.lt_of_succ_lt_succ hi) h1 h2
    rw [List.filter_cons, List.filter_cons]
    cases hp : p x with
    | true => rw [hpq x hp]; simpa using ih
    | false => cases q x <;> simp <;> omega
theorem trM_keep {sn : List Nat} {tr : TR} {i : Nat} (hi : i < tr.length) (hs : tr[i].1 ∉ sn) : trM (sn ++ [tr[i].1]) tr < trM sn tr := by
  unfold trM
  refine filt_lt (fun x hx => ?_) tr i hi (by simp) (by simpa using hs)
  have hx : x.1 ∉ sn ++ [tr[i].1] := by simpa using hx
  exact decide_eq_true fun h => hx (List.mem_append_left _ h)
theorem trM_del {sn : List Nat} {tr : TR} {i : Nat} (hi : i < tr.length) (hs : tr[i].1 ∉ sn) : trM (sn ++ [tr[i].1]) (tr.eraseIdx i) < trM sn tr := by
  have h1 := trM_keep hi hs
  have h2 : trM (sn ++ [tr[i].1]) (tr.eraseIdx i) ≤ trM (sn ++ [tr[i].1]) tr := ((List.eraseIdx_sublist ..).filter _).length_le
  omega
end Go.Proofs.Ytopdpbcfgjijaaa
end
section
set_option linter.unusedVariables false
set_option linter.unusedSimpArgs false
set_option maxRecDepth 20000
namespace Go.Proofs.Ytopdpbcfgjijaaa
open Go Go.Ab Go.Shelf Go.RowKit Go.Maps Go.Sort
def lay_sort_ren : Go.Shelf.Ren := ⟨fun | 6 => 45 | 8 => 47 | 9 => 52 | 19 => 61 | 20 => 62 | 21 => 67 | 22 => 68 | 23 => 69 | 24 => 70 | 25 => 71 | 26 => 72 | 27 => 73 | 28 => 74 | 29 => 75 | 36 => 82 | 31 => 77 | 32 => 78 | 37 => 83 | 38 => 84 | 39 => 48 | 41 => 87 | n => n, fun | 27 => 32 | 29 => 9 | 3 => 3 | 32 => 84 | 26 => 32 | 0 => 0 | 44 => 96 | 46 => 98 | 4 => 4 | 36 => 90 | 35 => 89 | 41 => 67 | 5 => 5 | 9 => 9 | 53 => 108 | 57 => 112 | 63 => 116 | 64 => 47 | n => n, fun | n => n⟩
theorem lay_sort : Go.Proofs.SlLaysM.n6 Try.prog lay_sort_ren := {
  mixed := by kernel_rfl
  f6 := ⟨Try.f45.name, by decide, Try.func45.trans (congrArg some (by kernel_rfl))⟩
  f8 := Try.func47.trans (congrArg some (by kernel_rfl))
  f9 := ⟨Try.f52.name, by decide, Try.func52.trans (congrArg some (by kernel_rfl))⟩
  f19 := Try.func61.trans (congrArg some (by kernel_rfl))
  f20 := Try.func62.trans (congrArg some (by kernel_rfl))
  f21 := ⟨Try.f67.name, by decide, Try.func67.trans (congrArg some (by kernel_rfl))⟩
  f22 := ⟨Try.f68.name, by decide, Try.func68.trans (congrArg some (by kernel_rfl))⟩
  f23 := ⟨Try.f69.name, by decide, Try.func69.trans (congrArg some (by kernel_rfl))⟩
  f24 := ⟨Try.f70.name, by decide, Try.func70.trans (congrArg some (by kernel_rfl))⟩
  f25 := ⟨Try.f71.name, by decide, Try.func71.trans (congrArg some (by kernel_rfl))⟩
  f26 := ⟨Try.f72.name, by decide, Try.func72.trans (congrArg some (by kernel_rfl))⟩
  f27 := ⟨Try.f73.name, by decide, Try.func73.trans (congrArg some (by kernel_rfl))⟩
  f28 := ⟨Try.f74.name, by decide, Try.func74.trans (congrArg some (by kernel_rfl))⟩
  f29 := ⟨Try.f75.name, by decide, Try.func75.trans (congrArg some (by kernel_rfl))⟩
  f31 := Try.func77.trans (congrArg some (by kernel_rfl))
  f32 := Try.func78.trans (congrArg some (by kernel_rfl))
  f36 := ⟨Try.f82.name, by decide, Try.func82.trans (congrArg some (by kernel_rfl))⟩
  f37 := ⟨Try.f83.name, by decide, Try.func83.trans (congrArg some (by kernel_rfl))⟩
  f38 := ⟨Try.f84.name, by decide, Try.func84.trans (congrArg some (by kernel_rfl))⟩
  f39 := ⟨Try.f48.name, by decide, Try.func48.trans (congrArg some (by kernel_rfl))⟩
  f41 := ⟨Try.f87.name, by decide, Try.func87.trans (congrArg some (by kernel_rfl))⟩
  t0 := Try.underlying0
  a0 := Try.isAgg0
  z0 := Try.sizeOf0
  v0 := Try.zeroValue0
  t3 := Try.underlying3
  a3 := Try.isAgg3
  z3 := Try.sizeOf3
  v3 := Try.zeroValue3
  t4 := Try.underlying4
  a4 := Try.isAgg4
  z4 := Try.sizeOf4
  v4 := Try.zeroValue4
  t5 := Try.underlying5
  a5 := Try.isAgg5
  z5 := Try.sizeOf5
  v5 := Try.zeroValue5
  t9 := Try.underlying9
  a9 := Try.isAgg9
  z9 := Try.sizeOf9
  v9 := Try.zeroValue9
  t26 := Try.underlying32
  a26 := Try.isAgg32
  z26 := Try.sizeOf32
  v26 := Try.zeroValue32
  t27 := Try.underlying32
  a27 := Try.isAgg32
  z27 := Try.sizeOf32
  v27 := Try.zeroValue32
  t29 := Try.underlying9
  a29 := Try.isAgg9
  z29 := Try.sizeOf9
  v29 := Try.zeroValue9
  t32 := Try.underlying84
  a32 := Try.isAgg84
  z32 := Try.sizeOf84
  v32 := Try.zeroValue84
  t35 := Try.underlying89
  a35 := Try.isAgg89
  z35 := Try.sizeOf89
  v35 := Try.zeroValue89
  t36 := Try.underlying90
  a36 := Try.isAgg90
  z36 := Try.sizeOf90
  v36 := Try.zeroValue90
  t41 := Try.underlying67
  a41 := Try.isAgg67
  z41 := Try.sizeOf67
  v41 := Try.zeroValue67
  t44 := Try.underlying96
  a44 := Try.isAgg96
  z44 := Try.sizeOf96
  v44 := Try.zeroValue96
  t46 := Try.underlying98
  a46 := Try.isAgg98
  z46 := Try.sizeOf98
  v46 := Try.zeroValue98
  t53 := Try.underlying108
  a53 := Try.isAgg108
  z53 := Try.sizeOf108
  v53 := Try.zeroValue108
  t57 := Try.underlying112
  a57 := Try.isAgg112
  z57 := Try.sizeOf112
  v57 := Try.zeroValue112
  t63 := Try.underlying116
  a63 := Try.isAgg116
  z63 := Try.sizeOf116
  v63 := Try.zeroValue116
  t64 := Try.underlying47
  a64 := Try.isAgg47
  z64 := Try.sizeOf47
  v64 := Try.zeroValue47 }
end Go.Proofs.Ytopdpbcfgjijaaa
end
section
set_option linter.unusedVariables false
set_option linter.unusedSimpArgs false
set_option maxRecDepth 20000
namespace Go.Proofs.Ytopdpbcfgjijaaa
open Go Go.Ab
def texts (l : List (List UInt8)) : List AV := l.map .str
theorem texts_one (l : List (List UInt8)) : ∀ x ∈ texts l, x.one = true := by
  intro x hx
  obtain ⟨y, _, rfl⟩ := List.mem_map.1 hx
  rfl
theorem texts_any {st : Bool} (l : List (List UInt8)) : ∀ x ∈ texts l, Free st x := by
  intro x hx
  obtain ⟨y, _, rfl⟩ := List.mem_map.1 hx
  exact .str
theorem texts_len (l : List (List UInt8)) : (texts l).length = l.length := by simp [texts]
theorem texts_get {l : List (List UInt8)} {i : Nat} (h : i < l.length) : (texts l)[i]? = some (.str l[i]) := by simp [texts, h]
end Go.Proofs.Ytopdpbcfgjijaaa
end
section
set_option linter.unusedVariables false
set_option linter.unusedSimpArgs false
set_option maxRecDepth 20000
set_option maxHeartbeats 1000000
namespace Go.Proofs.Ytopdpbcfgjijaaa
open Go Go.Ab Go.Shelf Go.RowKit Go.Lib Go.Sort
theorem enc_str {r : Rl} {w : World} {v : Value} {s : List UInt8} (h : VRel r w v (.str s)) : v = Go.Proofs.encStr s := by
  cases h with
  | str hs =>
    rename_i x
    show Value.string _ = Value.string _
    rw [← hs]
theorem enc_strR (r : Rl) (w : World) (s : List UInt8) : VRel r w (Go.Proofs.encStr s) (.str s) := .str (by simp)
theorem SortS_ok (l : List (List UInt8)) (hlen : l.length ≤ 1000000) {σ : Heap} {id ver : Nat} (hσ : σ[id]? = some (ver, some (.cells (texts l) ⟨false, none⟩))) :
    CallOk cx 45 [.ms id ver 0 l.length 1 false] σ (fun e s => e = .ret (.tup []) ∧ s = σ.set id (ver, some (.cells (texts (sortT l)) ⟨false, none⟩))) := by
  refine ⟨fun a w => Try.call45 a w, fun r w vs hi hv => ?_⟩
  obtain ⟨hs, hv⟩ := hv
  have g0 := hv 0 (by simp)
  have hvs : vs = #[vs.getD 0 undef] := by
    have hs : vs.size = 1 := hs
    refine Array.ext (by simp [hs]) fun j h1 h2 => ?_
    match j, h1 with
    | 0, h1 => simp [Array.getD, h1]
    | j + 1, h1 => omega
  rw [hvs]
  generalize vs.getD 0 undef = a at g0
  have g0 : VRel r w a (.ms id ver 0 l.length 1 false) := g0
  have hln : (sortT l).length = l.length := (sortT_perm l).length_eq
  rcases Nat.eq_zero_or_pos l.length with h0 | h0
  · have hl0 : l = [] := List.eq_nil_of_length_eq_zero h0
    subst hl0
    have hset : σ.set id (ver, some (.cells (texts (sortT [])) ⟨false, none⟩)) = σ := by
      have : sortT [] = [] := List.nil_perm.1 (sortT_perm []).symm
      rw [this]
      apply List.ext_getElem?
      intro i
      rw [List.getElem?_set]
      by_cases e : id = i
      · subst e
        rw [if_pos rfl, hσ]
        have : id < σ.length := by
          rcases Nat.lt_or_ge id σ.length with h | h
          · exact h
          · rw [List.getElem?_eq_none h] at hσ; cases hσ
        rw [if_pos this]
      · rw [if_neg e]
    have hz : ∃ p cap, a = .slice p 0 cap := by
      cases g0 with
      | ms0 => exact ⟨_, _, rfl⟩
      | ms hρ hcap hle hff => exact ⟨_, _, rfl⟩
    obtain ⟨p, cap, rfl⟩ := hz
    rw [hset]
    refine (Go.Proofs.AnyM.slices_Sort_string_none lay_sort p cap w).mono ?_
    rintro e w' ⟨rfl, rfl⟩
    exact ⟨.ret (.tup []), σ, r, ⟨rfl, rfl⟩, .tup rfl (fun i h => absurd h (by simp)), hi, Ext.refl _ _ _⟩
  · generalize hn : l.length = n at g0
    cases g0 with
    | ms0 => omega
    | ms hρ hcap hle hff =>
    rename_i blk off cap
    rcases hi.box id ver _ hσ with ⟨blk', off', hρ', hbx⟩ | ⟨_, ro, h⟩
    case inr =>
      have h := Box.cells.inj h
      have := texts_len l
      rw [h.1] at this; simp at this; omega
    rw [hρ] at hρ'
    obtain ⟨rfl, rfl⟩ : blk = blk' ∧ off = off' := by cases hρ'; exact ⟨rfl, rfl⟩
    obtain ⟨c, t, lo, hi0, q1, q2, q3, q4, q5⟩ := hbx
    have hcl := texts_len l
    have hbs : blk < w.heap.size := (hi.lt _ _ _ _ hρ).2
    have hcell : ∀ j (hj : j < l.length), c[off + j]? = some (Go.Proofs.encStr l[j]) := by
      intro j hj
      obtain ⟨v, k1, k2⟩ := q2 j (by omega)
      have hg := texts_get hj
      rw [List.getElem?_eq_getElem (by omega)] at hg
      rw [Option.some.inj hg] at k2
      rw [k1, enc_str k2]
    have hH : Holds Go.Proofs.encStr w blk off l.toArray := by
      intro j hj
      have hj : j < l.length := by simpa using hj
      have hge : l.toArray[j]! = l[j] := by rw [getElem!_pos l.toArray j (by simpa using hj)]; simp
      refine ⟨by simp only [World.cell?, q1, hge]; exact hcell j hj, ?_⟩
      have hjc : off + j < c.size := by
        rcases Nat.lt_or_ge (off + j) c.size with h | h
        · exact h
        · have := hcell j hj
          rw [Array.getElem?_eq_none h] at this; cases this
      simp only [World.frozen?, q1]
      cases hz : (decide (lo ≤ off + j) && decide (off + j < hi0)) with
      | false => rfl
      | true =>
        simp only [Bool.and_eq_true, decide_eq_true_eq] at hz
        have := (q4 _ hz.1 hz.2 hjc).1
        cases this
    have hc := Go.Proofs.AnyM.slices_Sort_string lay_sort blk off cap l w hH hbs (by omega)
    rw [hn] at hc
    refine hc.mono ?_
    rintro e w' ⟨rfl, m, os, rfl⟩
    have hms : (l.mergeSort fun x y => decide (x ≤ y)) = sortT l := rfl
    rw [hms]
    have hheap : ∀ k, k < w.heap.size → (grow (putRow Go.Proofs.encStr (Sort.ahead w m) blk off (sortT l).toArray) os).heap[k]? = if blk = k then some (Obj.cells (putCells Go.Proofs.encStr off (sortT l).toArray c) t (lo, hi0)) else w.heap[k]? := by
      intro k hk
      show ((w.heap.modify blk (onCells (putCells Go.Proofs.encStr off (sortT l).toArray))) ++ os)[k]? = _
      rw [Array.getElem?_append_left (by simpa using hk), Array.getElem?_modify]
      by_cases e : blk = k
      · subst e
        rw [if_pos rfl, if_pos rfl, q1]; rfl
      · rw [if_neg e, if_neg e]
    have hupd := hi.update (σ' := σ.set id (ver, some (.cells (texts (sortT l)) ⟨false, none⟩))) (id := id) (ver := ver) (b := blk) (o := off) (x := .cells (texts (sortT l)) ⟨false, none⟩) (w' := grow (putRow Go.Proofs.encStr (Sort.ahead w m) blk off (sortT l).toArray) os)
      (by
        have : id < σ.length := by
          rcases Nat.lt_or_ge id σ.length with h | h
          · exact h
          · rw [List.getElem?_eq_none h] at hσ; cases hσ
        simp [this]) (fun j hj => by rw [List.getElem?_set, if_neg (Ne.symm hj)]) (fun c2 y hy => by rw [hσ] at hy; cases hy; exact .inr ⟨rfl, hρ⟩) (.inr ⟨ver, _, off, hσ, hρ⟩)
      (fun k hk hkb => by rw [hheap k hk, if_neg (Ne.symm hkb)]) (by
        show w.heap.size ≤ ((w.heap.modify blk (onCells (putCells Go.Proofs.encStr off (sortT l).toArray))) ++ os).size
        simp) (fun c2 t2 f2 hc2 => by
          rw [q1] at hc2; cases hc2
          exact ⟨_, _, by rw [hheap blk hbs, if_pos rfl], by simp [putCells]⟩) rfl rfl rfl
      (fun g => by
        refine ⟨_, t, lo, hi0, by rw [hheap blk hbs, if_pos rfl], fun i hil => ?_, texts_one _, fun i h1 h2 h3 => ?_, fun T h => by cases h⟩
        · have hil' : i < (sortT l).length := by rw [texts_len] at hil; exact hil
          have hg := texts_get hil'
          rw [List.getElem?_eq_getElem hil] at hg
          rw [Option.some.inj hg]
          refine ⟨Go.Proofs.encStr (sortT l)[i], ?_, enc_strR _ _ _⟩
          have hci : off + i < c.size := by
            have := hcell i (by omega)
            rcases Nat.lt_or_ge (off + i) c.size with h | h
            · exact h
            · rw [Array.getElem?_eq_none h] at this; cases this
          unfold putCells
          rw [Array.getElem?_mapIdx, Array.getElem?_eq_getElem hci]
          show some (if off ≤ off + i ∧ off + i < off + (sortT l).toArray.size then Go.Proofs.encStr ((sortT l).toArray[off + i - off]!) else _) = _
          rw [if_pos ⟨by omega, by simp; omega⟩, Nat.add_sub_cancel_left, getElem!_pos (sortT l).toArray i (by simpa using hil')]
          simp
        · have h3 : i < c.size := by simpa [putCells] using h3
          have := (q4 i h1 h2 h3).1
          cases this)
    exact ⟨.ret (.tup []), _, _, ⟨rfl, rfl⟩, .tup rfl (fun i h => absurd h (by simp)), hupd.1, hupd.2⟩
end Go.Proofs.Ytopdpbcfgjijaaa
end
