/-
  Texts of our own, in one file.
-/
import Derived.Test.YtjaflkgfipaajaaGrpB
import Derived.Maps.RangeRun
import Derived.Lib.Bytealg
import Derived.Scope
section
set_option linter.unusedVariables false
set_option linter.unusedSimpArgs false
namespace Go.Ab
open Go
theorem putAll_pre {σ τ es : Heap} {n : Nat} (hn : σ.length = n) (he : es.length = n) : putAll (σ ++ τ) (List.range n) es = es ++ τ := by
  have hl : (putAll (σ ++ τ) (List.range n) es).length = (es ++ τ).length := by
    rw [putAll_length _ _ _ (by simp; omega)]; simp; omega
  refine List.ext_getElem? fun i => ?_
  rcases Nat.lt_or_ge i n with h | h
  · rw [putAll_at (List.range n) es (σ ++ τ) i i List.nodup_range (fun j hj => by rw [List.mem_range] at hj; simp; omega) (by simp; omega) (by rw [List.getElem?_append_left (by simpa using h)]; simp [h]), List.getElem?_append_left (by omega)]
  · rcases Nat.lt_or_ge i (σ ++ τ).length with h2 | h2
    · rw [putAll_other _ _ _ i h2 (by simp; omega), List.getElem?_append_right (by omega), List.getElem?_append_right (by omega), hn, he]
    · rw [List.getElem?_eq_none (by rw [hl]; simp at h2 ⊢; omega), List.getElem?_eq_none (by simp at h2 ⊢; omega)]
def RnO (ids : List Nat) : Out → Prop
  | .ret v => Rn ids v v
  | .panic v => Rn ids v v
theorem CallOk.pre {cx : Cx} {f : FuncId} {args : List AV} {σ : Heap} {R : Out → Heap → Prop} (n : Nat) (τ : Heap) (h : CallOk cx f args σ R) (hn : σ.length = n) (ha : Rns (List.range n) args args) (hs : RnH (List.range n) σ σ)
    (hR : ∀ o s, R o s → s.length = n ∧ RnH (List.range n) s s ∧ RnO (List.range n) o) : CallOk cx f args (σ ++ τ) (fun o s => ∃ s0, s = s0 ++ τ ∧ R o s0) := by
  have hp : Part (List.range n) σ (σ ++ τ) := by
    refine ⟨List.nodup_range, fun j hj => by rw [List.mem_range] at hj; simp; omega, by simp [hn], fun i j e hi he => ?_⟩
    have hil : i < σ.length := by
      rcases Nat.lt_or_ge i σ.length with h' | h'
      · exact h'
      · rw [List.getElem?_eq_none h'] at he; cases he
    have : j = i := by
      rw [List.getElem?_range (by omega)] at hi; exact (Option.some.inj hi).symm
    subst this
    refine ⟨e, by rw [List.getElem?_append_left hil]; exact he, ?_⟩
    have h1 := hs.2 j hil hil
    rw [List.getElem?_eq_getElem hil] at he
    rw [Option.some.inj he] at h1; exact h1
  refine ⟨h.1, fun r w vs hi hv => ?_⟩
  have hsub := frame_down hi hp
  have hvs : VRels (r.sub (List.range n)) w vs args := by
    refine ⟨hv.1, fun i hi' => ?_⟩
    refine (ha.2 i hi' hi').down (r := r) (r' := r.sub (List.range n)) (fun _ h => h) (fun _ h => h) hi.SI (fun i j ver p h1 h2 => ?_) (hv.2 i hi')
    simp only [Rl.sub, h1]; exact h2
  refine (h.2 _ w vs hsub hvs).mono fun e w' ⟨out, σ1, r1, hRo, ho, hi1, hx1⟩ => ?_
  obtain ⟨k1, k2, k3⟩ := hR _ _ hRo
  have hids : List.range n = List.range n ++ newIds (σ ++ τ).length (σ1.length - (List.range n).length) := by
    rw [List.length_range, k1, Nat.sub_self]; simp [newIds]
  obtain ⟨q1, q2, q3⟩ := frame_up hi hp hi1 hx1 hids k2
  rw [putAll_pre hn k1] at q1 q2
  cases e <;> cases out <;> first | exact ho.elim | skip
  · exact ⟨_, _, _, ⟨σ1, rfl, hRo⟩, q3 _ _ _ k3 ho, q1, q2⟩
  · obtain ⟨u, hu1, hu2⟩ := ho
    exact ⟨_, _, _, ⟨σ1, rfl, hRo⟩, ⟨u, hu1, q3 _ _ _ k3 hu2⟩, q1, q2⟩
theorem putAll_mid {τ σ τ' es : Heap} {k n : Nat} (hk : τ.length = k) (hn : σ.length = n) (he : es.length = n) : putAll (τ ++ (σ ++ τ')) (List.range' k n) es = τ ++ (es ++ τ') := by
  have hl : (putAll (τ ++ (σ ++ τ')) (List.range' k n) es).length = (τ ++ (es ++ τ')).length := by
    rw [putAll_length _ _ _ (by simp; omega)]; simp; omega
  refine List.ext_getElem? fun i => ?_
  by_cases hm : k ≤ i ∧ i < k + n
  · obtain ⟨h1, h2⟩ := hm
    have e1 : (List.range' k n ++ newIds (τ ++ (σ ++ τ')).length (es.length - (List.range' k n).length))[i - k]? = some i := by
      rw [List.getElem?_append_left (by simp; omega), List.getElem?_range' (by omega)]
      congr 1; omega
    rw [putAll_at (List.range' k n) es (τ ++ (σ ++ τ')) (i - k) i List.nodup_range' (fun j hj => by rw [List.mem_range'_1] at hj; simp; omega) (by simp; omega) e1, List.getElem?_append_right (by omega), hk, List.getElem?_append_left (by omega)]
  · rcases Nat.lt_or_ge i (τ ++ (σ ++ τ')).length with h2 | h2
    · rw [putAll_other _ _ _ i h2 (by rw [List.mem_range'_1]; omega)]
      rcases Nat.lt_or_ge i k with h3 | h3
      · rw [List.getElem?_append_left (by omega), List.getElem?_append_left (by omega)]
      · rw [List.getElem?_append_right (by omega), List.getElem?_append_right (by omega), List.getElem?_append_right (by omega), List.getElem?_append_right (by omega), hn, he]
    · rw [List.getElem?_eq_none (by rw [hl]; simp at h2 ⊢; omega), List.getElem?_eq_none (by simp at h2 ⊢; omega)]
theorem CallOk.mid {cx : Cx} {f : FuncId} {args args' : List AV} {σ σ' σ2 σ2' : Heap} {x x' : AV} (k n : Nat) (τ τ' : Heap) (h : CallOk cx f args σ (fun e s => e = .ret x ∧ s = σ')) (hk : τ.length = k) (hn : σ.length = n) (hn' : σ'.length = n)
    (ha : Rns (List.range' k n) args args') (hs : RnH (List.range' k n) σ σ2) (hs' : RnH (List.range' k n) σ' σ2') (hx : Rn (List.range' k n) x x') : CallOk cx f args' (τ ++ (σ2 ++ τ')) (fun e s => e = .ret x' ∧ s = τ ++ (σ2' ++ τ')) := by
  have hn2 : σ2.length = n := hs.1.symm.trans hn
  have hn2' : σ2'.length = n := hs'.1.symm.trans hn'
  have hp : Part (List.range' k n) σ (τ ++ (σ2 ++ τ')) := by
    refine ⟨List.nodup_range', fun j hj => by rw [List.mem_range'_1] at hj; simp; omega, by simp [hn], fun i j e hi he => ?_⟩
    have hil : i < σ.length := by
      rcases Nat.lt_or_ge i σ.length with h' | h'
      · exact h'
      · rw [List.getElem?_eq_none h'] at he; cases he
    have : j = k + i := by
      rw [List.getElem?_range' (by omega)] at hi; have := Option.some.inj hi; omega
    subst this
    have hil2 : i < σ2.length := by omega
    refine ⟨σ2[i], by rw [List.getElem?_append_right (by omega), List.getElem?_append_left (by omega), hk, Nat.add_sub_cancel_left, List.getElem?_eq_getElem hil2], ?_⟩
    have h1 := hs.2 i hil hil2
    rw [List.getElem?_eq_getElem hil] at he
    rw [Option.some.inj he] at h1; exact h1
  refine ⟨h.1, fun r w vs hi hv => ?_⟩
  have hsub := frame_down hi hp
  have hvs : VRels (r.sub (List.range' k n)) w vs args := by
    refine ⟨hv.1.trans ha.1.symm, fun i hi' => ?_⟩
    refine (ha.2 i hi' (by rw [← ha.1]; exact hi')).down (r := r) (r' := r.sub (List.range' k n)) (fun _ h => h) (fun _ h => h) hi.SI (fun i j ver p h1 h2 => ?_) (hv.2 i (by rw [← ha.1]; exact hi'))
    simp only [Rl.sub, h1]; exact h2
  refine (h.2 _ w vs hsub hvs).mono fun e w' ⟨out, σ1, r1, hRo, ho, hi1, hx1⟩ => ?_
  obtain ⟨rfl, rfl⟩ := hRo
  have hids : List.range' k n = List.range' k n ++ newIds (τ ++ (σ2 ++ τ')).length (σ2'.length - (List.range' k n).length) := by
    rw [List.length_range', hn2', Nat.sub_self]; simp [newIds]
  obtain ⟨q1, q2, q3⟩ := frame_up hi hp hi1 hx1 hids hs'
  rw [putAll_mid hk hn2 hn2'] at q1 q2
  cases e with
  | returned u => exact ⟨.ret x', _, _, ⟨rfl, rfl⟩, q3 _ _ _ hx ho, q1, q2⟩
  | panicked chain => exact ho.elim
  | outgrown => exact ho.elim
end Go.Ab
end
section
set_option linter.unusedVariables false
set_option linter.unusedSimpArgs false
namespace Go.Ab
open Go
def MapIs (r : Rl) (w : World) (es : Array MapEntry) (clock : Nat) (kvs : List (AV × AV)) (st : Option (List Nat × Nat)) : Prop :=
  es.size = kvs.length ∧ (∀ i (h : i < kvs.length), ∃ e, es[i]? = some e ∧ VRel r w e.key kvs[i].1 ∧ VRel r w e.val kvs[i].2) ∧
    (∀ (i j : Nat) (e f : MapEntry), es[i]? = some e → es[j]? = some f → e.born = f.born → i = j) ∧ (∀ (i : Nat) (e : MapEntry), es[i]? = some e → e.born < clock) ∧ (∀ bs c, st = some (bs, c) → es.toList.map MapEntry.born = bs ∧ clock = c)
theorem MapIs.mono {r r' : Rl} {w w' : World} {es : Array MapEntry} {clock : Nat} {kvs : List (AV × AV)} {st : Option (List Nat × Nat)} (g : Grow r w r' w') (h : MapIs r w es clock kvs st) : MapIs r' w' es clock kvs st := by
  obtain ⟨h1, h2, h3⟩ := h
  refine ⟨h1, fun i hi => ?_, h3⟩
  obtain ⟨e, he, hk, hv⟩ := h2 i hi
  exact ⟨e, he, hk.mono g, hv.mono g⟩
theorem Inv.mapAt {cx : Cx} {r : Rl} {σ : Heap} {w : World} {id ver : Nat} {kvs : List (AV × AV)} {st : Option (List Nat × Nat)} {z : Value} (hi : Inv cx r σ w) (hσ : σ[id]? = some (ver, some (.map kvs st))) (hz : VRel r w z (.map id ver)) :
    ∃ b es clock, z = .map (some b) ∧ r.ρ id ver = some (b, 0) ∧ w.heap[b]? = some (.map es clock) ∧ MapIs r w es clock kvs st := by
  rcases hi.box id ver _ hσ with ⟨b, o', hρ, hb⟩ | ⟨_, ro, h⟩
  · obtain ⟨rfl, es, clock, h1, h2⟩ := hb
    cases hz with
    | map h => rw [hρ] at h; cases h; exact ⟨b, es, clock, rfl, hρ, h1, h2⟩
  · cases h
theorem Inv.mapSet {cx : Cx} {r : Rl} {σ : Heap} {w : World} {id ver b : Nat} {kvs kvs' : List (AV × AV)} {st st' : Option (List Nat × Nat)} {es es' : Array MapEntry} {clock clock' : Nat} (hi : Inv cx r σ w) (hσ : σ[id]? = some (ver, some (.map kvs st)))
    (hρ : r.ρ id ver = some (b, 0)) (hb : w.heap[b]? = some (.map es clock)) (hm : MapIs r w es' clock' kvs' st') :
    ∃ r', Inv cx r' (σ.set id (ver, some (.map kvs' st'))) { w with heap := w.heap.setIfInBounds b (.map es' clock') } ∧ Ext r σ w r' (σ.set id (ver, some (.map kvs' st'))) { w with heap := w.heap.setIfInBounds b (.map es' clock') } := by
  have hid : id < σ.length := by
    rcases Nat.lt_or_ge id σ.length with h | h
    · exact h
    · rw [List.getElem?_eq_none h] at hσ; cases hσ
  have hbb : b < w.heap.size := by
    rcases Nat.lt_or_ge b w.heap.size with h | h
    · exact h
    · rw [Array.getElem?_eq_none h] at hb; cases hb
  have hu := hi.update (σ' := σ.set id (ver, some (.map kvs' st'))) (id := id) (ver := ver) (b := b) (o := 0) (x := .map kvs' st') (w' := { w with heap := w.heap.setIfInBounds b (.map es' clock') })
      (by simp [hid]) (fun j hj => by rw [List.getElem?_set, if_neg (Ne.symm hj)]) (fun c2 y hy => by rw [hσ] at hy; cases hy; exact .inr ⟨rfl, hρ⟩) (.inr ⟨ver, _, 0, hσ, hρ⟩)
      (fun k hk hkb => by simp [Array.getElem?_setIfInBounds, Ne.symm hkb]) (by simp) (fun c2 t2 f2 hc2 => by rw [hb] at hc2; cases hc2) rfl rfl rfl
      (fun g => ⟨rfl, es', clock', by simp [Array.getElem?_setIfInBounds, hbb], hm.mono g⟩)
  exact ⟨_, hu⟩
def sameK : AV → AV → Option Bool
  | .str a, .str b => some (a == b)
  | .int k a, .int j b => match kindEq k j with | true => some (a == b) | false => none
  | .bool a, .bool b => some (a == b)
  | _, _ => none
def findK (key : AV) : List (AV × AV) → Nat → Option (Option (Nat × AV))
  | [], _ => some none
  | e :: r, i => match sameK key e.1 with
    | some true => some (some (i, e.2))
    | some false => findK key r (i + 1)
    | none => none
def keyFits (P : Program) (k : TypeId) (key : AV) : Bool := match P.underlying k, key with
  | some .string, .str _ => true
  | some (.int _), .int _ _ => true
  | some .bool, .bool _ => true
  | _, _ => false
theorem sameK_run {r : Rl} {w : World} {d : TypeDesc} {key k : Value} {a b : AV} {t : Bool} (hd : (d = .string ∧ ∃ s, a = .str s) ∨ (∃ j, d = .int j ∧ ∃ n m, a = .int n m) ∨ (d = .bool ∧ ∃ x, a = .bool x)) (h : sameK a b = some t) (ha : VRel r w key a) (hb : VRel r w k b) :
    Instr.sameNow d key k = some t ∧ (t = true → Instr.sameBits 10000 k key = true) := by
  rcases hd with ⟨rfl, s, rfl⟩ | ⟨j, rfl, n, m, rfl⟩ | ⟨rfl, x, rfl⟩
  · unfold sameK at h
    split at h <;> try (cases h; done)
    · rename_i a1 b1 e1
      cases e1
      simp only [Option.some.injEq] at h
      cases ha with
      | str ha =>
        cases hb with
        | str hb =>
          rename_i x y
          have hxy : (x == y) = t := by
            rw [← h, ← ha, ← hb, Bool.eq_iff_iff, MapKept.bytes_beq]
            simp only [beq_iff_eq, Array.toList_inj]
            exact ⟨fun h => by rw [h], fun h => ByteArray.ext h⟩
          refine ⟨by simp only [Instr.sameNow, hxy], fun ht => ?_⟩
          rw [ht] at hxy
          obtain rfl := (MapKept.bytes_beq _ _).1 hxy
          unfold Instr.sameBits
          exact (MapKept.bytes_beq _ _).2 rfl
    · rename_i e1; cases e1
    · rename_i e1; cases e1
  · unfold sameK at h
    split at h <;> try (cases h; done)
    · rename_i e1; cases e1
    · rename_i k1 a1 j1 b1 e1
      cases e1
      split at h
      · rename_i hk
        have hk := kindEq_eq hk
        subst hk
        simp only [Option.some.injEq] at h
        cases ha; cases hb
        refine ⟨by simp [Instr.sameNow, h], fun ht => ?_⟩
        rw [ht] at h
        have h := eq_of_beq h
        subst h
        simp [Instr.sameBits]
      · cases h
    · rename_i e1; cases e1
  · unfold sameK at h
    split at h <;> try (cases h; done)
    · rename_i e1; cases e1
    · rename_i e1; cases e1
    · rename_i e1
      cases e1
      simp only [Option.some.injEq] at h
      cases ha; cases hb
      refine ⟨by simp [Instr.sameNow, h], fun ht => ?_⟩
      rw [ht] at h
      have h := eq_of_beq h
      subst h
      simp [Instr.sameBits]
theorem findK_run {r : Rl} {w : World} {d : TypeDesc} {key : Value} {a : AV} (hd : (d = .string ∧ ∃ s, a = .str s) ∨ (∃ j, d = .int j ∧ ∃ n m, a = .int n m) ∨ (d = .bool ∧ ∃ x, a = .bool x)) (ha : VRel r w key a) :
    ∀ (l : List MapEntry) (kvs : List (AV × AV)) (i : Nat) (res : Option (Nat × AV)), l.length = kvs.length → (∀ j (h : j < kvs.length), ∃ e, l[j]? = some e ∧ VRel r w e.key kvs[j].1 ∧ VRel r w e.val kvs[j].2) → findK a kvs i = some res →
    (res = none ∧ Instr.findNow d key l i = some none) ∨ ∃ j v e, res = some (i + j, v) ∧ l[j]? = some e ∧ Instr.findNow d key l i = some (some (i + j, e.val)) ∧ VRel r w e.val v ∧ Instr.sameBits 10000 e.key key = true ∧ j < kvs.length
  | [], [], i, res, _, _, h => by
    simp only [findK, Option.some.injEq] at h
    exact .inl ⟨h.symm, rfl⟩
  | [], _ :: _, _, _, hl, _, _ => by simp at hl
  | _ :: _, [], _, _, hl, _, _ => by simp at hl
  | e :: l, p :: kvs, i, res, hl, hr, h => by
    obtain ⟨e0, q1, q2, q3⟩ := hr 0 (by simp)
    simp only [List.getElem?_cons_zero, Option.some.injEq, List.getElem_cons_zero] at q1 q2 q3
    subst q1
    unfold findK at h
    split at h
    · rename_i hs
      simp only [Option.some.injEq] at h
      obtain ⟨s1, s2⟩ := sameK_run hd hs ha q2
      refine .inr ⟨0, p.2, e, by simpa using h.symm, rfl, ?_, q3, s2 rfl, by simp⟩
      unfold Instr.findNow
      rw [s1]; rfl
    · rename_i hs
      obtain ⟨s1, _⟩ := sameK_run hd hs ha q2
      have ih := findK_run hd ha l kvs (i + 1) res (by simpa using hl) (fun j hj => by
        obtain ⟨e', m1, m2, m3⟩ := hr (j + 1) (by simp; omega)
        exact ⟨e', by simpa using m1, by simpa using m2, by simpa using m3⟩) h
      have hf : Instr.findNow d key (e :: l) i = Instr.findNow d key l (i + 1) := by
        conv => lhs; unfold Instr.findNow
        rw [s1]
      rw [hf]
      rcases ih with ⟨h1, h2⟩ | ⟨j, v, e', h1, h2, h3, h4, h5, h6⟩
      · exact .inl ⟨h1, h2⟩
      · refine .inr ⟨j + 1, v, e', ?_, by simpa using h2, ?_, h4, h5, by simp; omega⟩
        · rw [h1]; congr 2; omega
        · rw [h3]; congr 3; omega
    · cases h
theorem keyFits_spec {P : Program} {k : TypeId} {a : AV} (h : keyFits P k a = true) : ∃ d, P.underlying k = some d ∧ ((d = .string ∧ ∃ s, a = .str s) ∨ (∃ j, d = .int j ∧ ∃ n m, a = .int n m) ∨ (d = .bool ∧ ∃ x, a = .bool x)) := by
  unfold keyFits at h
  split at h
  · rename_i h1; exact ⟨_, h1, .inl ⟨rfl, _, rfl⟩⟩
  · rename_i h1; exact ⟨_, h1, .inr (.inl ⟨_, rfl, _, _, rfl⟩)⟩
  · rename_i h1; exact ⟨_, h1, .inr (.inr ⟨rfl, _, rfl⟩)⟩
  · cases h
theorem checkKey_run {P : Program} {w : World} {k : TypeId} {d : TypeDesc} {key : Value} {r : Rl} {a : AV} (e : Bool) (hu : P.underlying k = some d) (hd : (d = .string ∧ ∃ s, a = .str s) ∨ (∃ j, d = .int j ∧ ∃ n m, a = .int n m) ∨ (d = .bool ∧ ∃ x, a = .bool x)) (ha : VRel r w key a) :
    (Instr.checkKey e 10000 k key).run P w = .ok () w := by
  unfold Instr.checkKey
  rcases hd with ⟨rfl, s, rfl⟩ | ⟨j, rfl, n, m, rfl⟩ | ⟨rfl, x, rfl⟩ <;> cases ha <;> simp [run_underlying hu]
def okV (ok : Bool) (v : AV) (t : Bool) : AV := match ok with | true => .tup [v, .bool t] | false => v
def setK (kvs : List (AV × AV)) (key v : AV) (h : Option (Nat × AV)) : List (AV × AV) := match h with
  | some (i, _) => kvs.set i (key, v)
  | none => kvs ++ [(key, v)]
def setB (st : Option (List Nat × Nat)) (h : Option (Nat × AV)) : Option (List Nat × Nat) := match h with
  | some _ => st
  | none => match st with
    | some (bs, c) => some (bs ++ [c], c + 1)
    | none => none
def delK (kvs : List (AV × AV)) (h : Option (Nat × AV)) : List (AV × AV) := match h with
  | some (i, _) => kvs.eraseIdx i
  | none => kvs
def delB (st : Option (List Nat × Nat)) (h : Option (Nat × AV)) : Option (List Nat × Nat) := match h with
  | some (i, _) => match st with
    | some (bs, c) => some (bs.eraseIdx i, c)
    | none => none
  | none => st
def mapA (cx : Cx) (fr : Fr) (σ : Heap) (o : Op) (h : Option (Nat × AV)) : Option (List Prop × AV × Heap) :=
  match o with
  | .lookup t m k ok => match cx.P.underlying t with
    | some (.map kt et) => match keyFits cx.P kt (ev cx fr k) with
      | true => match ev cx fr m with
        | .map id ver => match σ[id]? with
          | some (cur, some (.map kvs _)) => match h with
            | some (_, v) => some ([ver = cur, findK (ev cx fr k) kvs 0 = some h], okV ok v true, σ)
            | none => match zeroV cx.P et with
              | some z => some ([ver = cur, findK (ev cx fr k) kvs 0 = some h], okV ok z false, σ)
              | none => none
          | _ => none
        | _ => none
      | false => none
    | _ => none
  | .mapUpdate t m k x => match cx.P.underlying t with
    | some (.map kt _) => match keyFits cx.P kt (ev cx fr k) with
      | true => match ev cx fr m with
        | .map id ver => match σ[id]? with
          | some (cur, some (.map kvs st)) => some ([ver = cur, findK (ev cx fr k) kvs 0 = some h], .tup [], σ.set id (cur, some (.map (setK kvs (ev cx fr k) (ev cx fr x) h) (setB st h))))
          | _ => none
        | _ => none
      | false => none
    | _ => none
  | .call { callee := .builtin .delete, args := args, argTypes := ts } => match args.toList, ts.toList with
    | [m, k], [t, _] => match cx.P.underlying t with
      | some (.map kt _) => match keyFits cx.P kt (ev cx fr k) with
        | true => match ev cx fr m with
          | .map id ver => match σ[id]? with
            | some (cur, some (.map kvs st)) => some ([ver = cur, findK (ev cx fr k) kvs 0 = some h], .tup [], σ.set id (cur, some (.map (delK kvs h) (delB st h))))
            | _ => none
          | _ => none
        | false => none
      | _ => none
    | _, _ => none
  | _ => none
theorem findKey_run {cx : Cx} {r : Rl} {w : World} {kt : TypeId} {key : Value} {a : AV} {es : Array MapEntry} {clock : Nat} {kvs : List (AV × AV)} {st : Option (List Nat × Nat)} {h : Option (Nat × AV)} (hk : keyFits cx.P kt a = true) (ha : VRel r w key a)
    (hm : MapIs r w es clock kvs st) (hf : findK a kvs 0 = some h) : (∀ e, (Instr.checkKey e 10000 kt key).run cx.P w = .ok () w) ∧
    ((h = none ∧ (Instr.findKey kt key es.toList).run cx.P w = .ok none w) ∨ ∃ j v e, h = some (j, v) ∧ es[j]? = some e ∧ (Instr.findKey kt key es.toList).run cx.P w = .ok (some (j, e.val)) w ∧ VRel r w e.val v ∧ Instr.sameBits 10000 e.key key = true ∧ j < kvs.length) := by
  obtain ⟨d, hu, hd⟩ := keyFits_spec hk
  refine ⟨fun e => checkKey_run e hu hd ha, ?_⟩
  rcases findK_run hd ha es.toList kvs 0 h (by rw [Array.length_toList]; exact hm.1) (fun j hj => by
    obtain ⟨e, h1, h2, h3⟩ := hm.2.1 j hj
    exact ⟨e, by rw [Array.getElem?_toList]; exact h1, h2, h3⟩) hf with ⟨h1, h2⟩ | ⟨j, v, e, h1, h2, h3, h4, h5, h6⟩
  · exact .inl ⟨h1, by simp [Instr.findKey, run_underlying hu, h2]⟩
  · rw [Nat.zero_add] at h1 h3
    rw [Array.getElem?_toList] at h2
    exact .inr ⟨j, v, e, h1, h2, by simp [Instr.findKey, run_underlying hu, h3], h4, h5, h6⟩
theorem MapIs.setK {r : Rl} {w : World} {es : Array MapEntry} {clock : Nat} {kvs : List (AV × AV)} {st : Option (List Nat × Nat)} {key val : Value} {a x : AV} (hm : MapIs r w es clock kvs st) (ha : VRel r w key a) (hx : VRel r w val x) {j : Nat} {v : AV} (hj : j < kvs.length) :
    MapIs r w (es.modify j fun e => { e with key := key, val := val }) clock (Ab.setK kvs a x (some (j, v))) st := by
  obtain ⟨h1, h2, h3, h4, h5⟩ := hm
  have hget : ∀ i, (es.modify j fun e => { e with key := key, val := val })[i]? = if j = i then es[i]?.map (fun e => { e with key := key, val := val }) else es[i]? := fun i => by
    rw [Array.getElem?_modify]
  have hback : ∀ {i : Nat} {e : MapEntry}, (es.modify j fun e => { e with key := key, val := val })[i]? = some e → ∃ e', es[i]? = some e' ∧ e'.born = e.born := by
    intro i e he
    rw [hget] at he
    split at he
    · cases hh : es[i]? with
      | none => rw [hh] at he; cases he
      | some e' => rw [hh] at he; simp at he; exact ⟨e', rfl, by rw [← he]⟩
    · exact ⟨e, he, rfl⟩
  refine ⟨by simpa [Ab.setK] using h1, fun i hi => ?_, fun i i' e f he hf hb => ?_, fun i e he => ?_, fun bs c hst => ?_⟩
  · simp only [Ab.setK, List.length_set] at hi
    obtain ⟨e, q1, q2, q3⟩ := h2 i hi
    simp only [Ab.setK]
    by_cases hij : j = i
    · subst hij
      refine ⟨_, by rw [hget, if_pos rfl, q1]; rfl, ?_, ?_⟩
      · rw [List.getElem_set_self]; exact ha
      · rw [List.getElem_set_self]; exact hx
    · refine ⟨e, by rw [hget, if_neg hij]; exact q1, ?_, ?_⟩
      · rw [List.getElem_set_ne hij]; exact q2
      · rw [List.getElem_set_ne hij]; exact q3
  · obtain ⟨e', k1, k2⟩ := hback he
    obtain ⟨f', k3, k4⟩ := hback hf
    exact h3 i i' e' f' k1 k3 (by rw [k2, k4, hb])
  · obtain ⟨e', k1, k2⟩ := hback he
    rw [← k2]; exact h4 i e' k1
  · obtain ⟨k1, k2⟩ := h5 bs c hst
    refine ⟨?_, k2⟩
    rw [← k1]
    apply List.ext_getElem?
    intro i
    rw [List.getElem?_map, List.getElem?_map, Array.getElem?_toList, Array.getElem?_toList, hget]
    split
    · cases es[i]? <;> rfl
    · rfl
theorem MapIs.pushK {r : Rl} {w : World} {es : Array MapEntry} {clock : Nat} {kvs : List (AV × AV)} {st : Option (List Nat × Nat)} {key val : Value} {a x : AV} (hm : MapIs r w es clock kvs st) (ha : VRel r w key a) (hx : VRel r w val x) :
    MapIs r w (es.push { key := key, val := val, born := clock }) (clock + 1) (Ab.setK kvs a x none) (setB st none) := by
  obtain ⟨h1, h2, h3, h4, h5⟩ := hm
  have hback : ∀ {i : Nat} {e : MapEntry}, (es.push { key := key, val := val, born := clock })[i]? = some e → (es[i]? = some e ∧ e.born < clock) ∨ (i = es.size ∧ e.born = clock) := by
    intro i e he
    rw [Array.getElem?_push] at he
    split at he
    · rename_i hh
      cases he; exact .inr ⟨hh, rfl⟩
    · exact .inl ⟨he, h4 i e he⟩
  refine ⟨by simp [Ab.setK, h1], fun i hi => ?_, fun i i' e f he hf hb => ?_, fun i e he => ?_, fun bs c hst => ?_⟩
  · simp only [Ab.setK, List.length_append, List.length_cons, List.length_nil] at hi
    simp only [Ab.setK]
    by_cases hlt : i < kvs.length
    · obtain ⟨e, q1, q2, q3⟩ := h2 i hlt
      refine ⟨e, by rw [Array.getElem?_push, if_neg (by omega)]; exact q1, ?_, ?_⟩
      · rw [List.getElem_append_left hlt]; exact q2
      · rw [List.getElem_append_left hlt]; exact q3
    · obtain rfl : i = kvs.length := by omega
      refine ⟨_, by rw [Array.getElem?_push, if_pos h1.symm], ?_, ?_⟩
      · rw [List.getElem_append_right (Nat.le_refl _)]; simpa using ha
      · rw [List.getElem_append_right (Nat.le_refl _)]; simpa using hx
  · rcases hback he with ⟨k1, k2⟩ | ⟨k1, k2⟩ <;> rcases hback hf with ⟨k3, k4⟩ | ⟨k3, k4⟩
    · exact h3 i i' e f k1 k3 hb
    · omega
    · omega
    · omega
  · rcases hback he with ⟨k1, k2⟩ | ⟨k1, k2⟩ <;> omega
  · unfold setB at hst
    cases st with
    | none => cases hst
    | some s =>
      obtain ⟨bs0, c00⟩ := s
      cases hst
      obtain ⟨k1, k2⟩ := h5 bs0 c00 rfl
      exact ⟨by rw [Array.toList_push, List.map_append, k1, k2]; rfl, by rw [k2]⟩
theorem MapIs.delK {r : Rl} {w : World} {es : Array MapEntry} {clock : Nat} {kvs : List (AV × AV)} {st : Option (List Nat × Nat)} (hm : MapIs r w es clock kvs st) {j : Nat} {v : AV} (hj : j < kvs.length) :
    MapIs r w (es.eraseIdxIfInBounds j) clock (Ab.delK kvs (some (j, v))) (delB st (some (j, v))) := by
  obtain ⟨h1, h2, h3, h4, h5⟩ := hm
  have hjs : j < es.size := by omega
  have hsub : (es.eraseIdxIfInBounds j).toList = es.toList.eraseIdx j := by
    unfold Array.eraseIdxIfInBounds
    rw [dif_pos hjs]; simp
  have hget : ∀ i, (es.eraseIdxIfInBounds j)[i]? = if i < j then es[i]? else es[i + 1]? := fun i => by
    rw [← Array.getElem?_toList, hsub, List.getElem?_eraseIdx, Array.getElem?_toList, Array.getElem?_toList]
  have hsz : (es.eraseIdxIfInBounds j).size = es.size - 1 := by
    rw [← Array.length_toList, hsub, List.length_eraseIdx_of_lt (by rw [Array.length_toList]; exact hjs), Array.length_toList]
  refine ⟨by rw [hsz, h1]; simp only [Ab.delK]; rw [List.length_eraseIdx_of_lt hj], fun i hi => ?_, fun i i' e f he hf hb => ?_, fun i e he => ?_, fun bs c hst => ?_⟩
  · simp only [Ab.delK] at hi ⊢
    rw [List.length_eraseIdx_of_lt hj] at hi
    rw [hget]
    by_cases hij : i < j
    · obtain ⟨e, q1, q2, q3⟩ := h2 i (by omega)
      refine ⟨e, by rw [if_pos hij]; exact q1, ?_, ?_⟩
      · rw [List.getElem_eraseIdx_of_lt _ hij]; exact q2
      · rw [List.getElem_eraseIdx_of_lt _ hij]; exact q3
    · obtain ⟨e, q1, q2, q3⟩ := h2 (i + 1) (by omega)
      refine ⟨e, by rw [if_neg hij]; exact q1, ?_, ?_⟩
      · rw [List.getElem_eraseIdx_of_ge _ (by omega)]; exact q2
      · rw [List.getElem_eraseIdx_of_ge _ (by omega)]; exact q3
  · rw [hget] at he hf
    split at he <;> split at hf <;> (have := h3 _ _ _ _ he hf hb; omega)
  · rw [hget] at he
    split at he <;> exact h4 _ _ he
  · unfold delB at hst
    cases st with
    | none => cases hst
    | some s =>
      obtain ⟨bs0, c0⟩ := s
      cases hst
      obtain ⟨k1, k2⟩ := h5 bs0 _ rfl
      refine ⟨?_, k2⟩
      rw [hsub, ← k1]
      exact (Go.ChangeMaps.map_eraseIdx _ _ _)
theorem mapA_run {cx : Cx} {r : Rl} {σ σ' : Heap} {w : World} {n : Nat} {fr : Fr} {a : Act} {o : Oper} {hh : Option (Nat × AV)} {C : List Prop} {v : AV} (hi : Inv cx r σ w) (hf : FRel r w n fr a) (h : mapA cx fr σ o.op hh = some (C, v, σ')) (hC : AllP C) :
    OpRes cx r σ w ((execOp a.eval o).run cx.P w) v σ' := by
  have he : ∀ x, VRel r w (a.eval x) (ev cx fr x) := fun x => ev_rel hi hf x
  have q : ∀ {s : Sem Value} {v : AV} {σ' : Heap}, (∃ v' w' r', s.run cx.P w = .ok v' w' ∧ VRel r' w' v' v ∧ Inv cx r' σ' w' ∧ Ext r σ w r' σ' w') →
      OpRes cx r σ w ((do let x ← s; pure (Next.value x) : Sem Next).run cx.P w) v σ' := by
    rintro s v σ' ⟨v', w', r', h1, h2, h3, h4⟩
    exact ⟨r', w', v', .inl (by simp [h1]), h2, h3, h4⟩
  obtain ⟨dst, op, ty, pos, after, guard⟩ := o
  simp only at h
  unfold mapA at h
  split at h
  ·
    rename_i t m k ok
    split at h
    case h_2 => cases h
    rename_i kt et hu
    split at h
    case h_2 => cases h
    rename_i hkf
    split at h
    case h_2 => cases h
    rename_i id ver hm
    split at h
    case h_2 => cases h
    rename_i cur kvs st hσ
    have hmv := he m
    rw [hm] at hmv
    unfold execOp
    refine q ?_
    split at h
    · rename_i i0 v0
      simp only [Option.some.injEq, Prod.mk.injEq] at h; obtain ⟨rfl, rfl, rfl⟩ := h
      obtain ⟨rfl, hfk, _⟩ := hC
      obtain ⟨b, es, clock, hz, hρ, hb, hmi⟩ := hi.mapAt hσ hmv
      obtain ⟨hck, hk⟩ := findKey_run hkf (he k) hmi hfk
      rcases hk with ⟨hn, _⟩ | ⟨j, v1, e, hn, hes, hrun, hv, _, _⟩
      · cases hn
      cases hn
      cases ok with
      | true =>
        refine ⟨.tuple #[e.val, .bool true], w, r, ?_, .tup rfl (fun i hi => ?_), hi, Ext.refl _ _ _⟩
        · simp [Instr.lookup, run_underlying hu, hz, MapKept.run_getObj_map hb, hck, hrun]
        · simp only [List.length_cons, List.length_nil] at hi
          rcases i with _ | _ | i
          · exact hv
          · exact .bool
          · omega
      | false =>
        refine ⟨e.val, w, r, ?_, hv, hi, Ext.refl _ _ _⟩
        simp [Instr.lookup, run_underlying hu, hz, MapKept.run_getObj_map hb, hck, hrun]
    · split at h
      case h_2 => cases h
      rename_i z0 hz0
      simp only [Option.some.injEq, Prod.mk.injEq] at h; obtain ⟨rfl, rfl, rfl⟩ := h
      obtain ⟨rfl, hfk, _⟩ := hC
      obtain ⟨b, es, clock, hz, hρ, hb, hmi⟩ := hi.mapAt hσ hmv
      obtain ⟨hck, hk⟩ := findKey_run hkf (he k) hmi hfk
      obtain ⟨z, hz1, hz2⟩ := zeroV_run hz0 r w
      rcases hk with ⟨_, hrun⟩ | ⟨j, v1, e, hn, _⟩
      case inr => cases hn
      cases ok with
      | true =>
        refine ⟨.tuple #[z, .bool false], w, r, ?_, .tup rfl (fun i hi => ?_), hi, Ext.refl _ _ _⟩
        · simp [Instr.lookup, run_underlying hu, hz, MapKept.run_getObj_map hb, hck, hrun, hz1]
        · simp only [List.length_cons, List.length_nil] at hi
          rcases i with _ | _ | i
          · exact hz2
          · exact .bool
          · omega
      | false =>
        refine ⟨z, w, r, ?_, hz2, hi, Ext.refl _ _ _⟩
        simp [Instr.lookup, run_underlying hu, hz, MapKept.run_getObj_map hb, hck, hrun, hz1]
  ·
    rename_i t m k x
    split at h
    case h_2 => cases h
    rename_i kt et hu
    split at h
    case h_2 => cases h
    rename_i hkf
    split at h
    case h_2 => cases h
    rename_i id ver hm
    split at h
    case h_2 => cases h
    rename_i cur kvs st hσ
    have hmv := he m
    rw [hm] at hmv
    simp only [Option.some.injEq, Prod.mk.injEq] at h; obtain ⟨rfl, rfl, rfl⟩ := h
    obtain ⟨rfl, hfk, _⟩ := hC
    obtain ⟨b, es, clock, hz, hρ, hb, hmi⟩ := hi.mapAt hσ hmv
    obtain ⟨hck, hk⟩ := findKey_run hkf (he k) hmi hfk
    have fin : ∀ {w' : World} {es' : Array MapEntry} {clock' : Nat} {kvs' : List (AV × AV)} {st' : Option (List Nat × Nat)}, w' = { w with heap := w.heap.setIfInBounds b (.map es' clock') } → (Instr.mapUpdate t (a.eval m) (a.eval k) (a.eval x)).run cx.P w = .ok () w' → MapIs r w es' clock' kvs' st' →
        OpRes cx r σ w ((execOp a.eval ⟨dst, .mapUpdate t m k x, ty, pos, after, guard⟩).run cx.P w) (.tup []) (σ.set id (ver, some (.map kvs' st'))) := by
      rintro w' es' clock' kvs' st' rfl hrun hm'
      obtain ⟨r', k1, k2⟩ := hi.mapSet hσ hρ hb hm'
      refine ⟨r', _, undef, .inr ⟨?_, rfl⟩, .tup rfl (fun i h => absurd h (by simp)), k1, k2⟩
      simp [execOp, hrun]
    rcases hk with ⟨rfl, hrun⟩ | ⟨j, v1, e, rfl, hes, hrun, hv, hbits, hj⟩
    · refine fin (es' := es.push { key := a.eval k, val := a.eval x, born := clock }) (clock' := clock + 1) rfl ?_ (hmi.pushK (he k) (he x))
      simp [Instr.mapUpdate, run_underlying hu, hz, MapKept.run_getObj_map hb, hck, hrun, MapKept.run_setObj_map _ hb]
    · refine fin (es' := es.modify j fun e => { e with key := a.eval k, val := a.eval x }) (clock' := clock) rfl ?_ (hmi.setK (he k) (he x) hj)
      simp [Instr.mapUpdate, run_underlying hu, hz, MapKept.run_getObj_map hb, hck, hrun, hes, Instr.keyThatStays, hbits, MapKept.run_setObj_map _ hb]
  ·
    rename_i args ts
    obtain ⟨bs, hbs⟩ := run_len_call cx.P w a.eval .delete args ts dst ty pos after guard
    rw [hbs]
    split at h
    case h_2 => cases h
    rename_i m k t u hargs hts
    have h1 : args = #[m, k] := by rw [← Array.toArray_toList (xs := args), hargs]
    have h2 : ts = #[t, u] := by rw [← Array.toArray_toList (xs := ts), hts]
    subst h1; subst h2
    simp only [builtin, List.map_toArray, List.map_cons, List.map_nil]
    split at h
    case h_2 => cases h
    rename_i kt et hu
    split at h
    case h_2 => cases h
    rename_i hkf
    split at h
    case h_2 => cases h
    rename_i id ver hm
    split at h
    case h_2 => cases h
    rename_i cur kvs st hσ
    have hmv := he m
    rw [hm] at hmv
    simp only [Option.some.injEq, Prod.mk.injEq] at h; obtain ⟨rfl, rfl, rfl⟩ := h
    obtain ⟨rfl, hfk, _⟩ := hC
    obtain ⟨b, es, clock, hz, hρ, hb, hmi⟩ := hi.mapAt hσ hmv
    obtain ⟨hck, hk⟩ := findKey_run hkf (he k) hmi hfk
    refine q ?_
    rcases hk with ⟨rfl, hrun⟩ | ⟨j, v1, e, rfl, hes, hrun, hv, hbits, hj⟩
    · obtain ⟨r', k1, k2⟩ := hi.mapSet hσ hρ hb (es' := es) (clock' := clock) (kvs' := delK kvs none) (st' := delB st none) hmi
      refine ⟨.tuple #[], _, r', ?_, .tup rfl (fun i h => absurd h (by simp)), k1, k2⟩
      simp [Builtin.delete_, run_underlying hu, hz, MapKept.run_getObj_map hb, hck, hrun, MapKept.run_setObj_map _ hb]
    · obtain ⟨r', k1, k2⟩ := hi.mapSet hσ hρ hb (hmi.delK (v := v1) hj)
      refine ⟨.tuple #[], _, r', ?_, .tup rfl (fun i h => absurd h (by simp)), k1, k2⟩
      simp [Builtin.delete_, run_underlying hu, hz, MapKept.run_getObj_map hb, hck, hrun, MapKept.run_setObj_map _ hb]
  · cases h
section
variable {cx : Cx} {n : Nat} {B : Bs} {k : List AI} {Q : Post} {fr : Fr} {σ : Heap}
theorem OpSpec.map {o : Oper} {v : AV} {σ' : Heap} {C : List Prop} (hh : Option (Nat × AV)) (h : mapA cx fr σ o.op hh = some (C, v, σ')) (hC : AllP C) : OpSpec cx n fr σ o v σ' := fun r a w hi hf => mapA_run hi hf h hC
theorem OpSpec.entry {o : Oper} {x : Operand} {id ver mid mver since c i b : Nat} {seen bs : List Nat} {kvs : List (AV × AV)} (ho : o.op = .entry x) (hx0 : ev cx fr x = .ptr id ver 0) (hσ : σ[id]? = some (ver, some (.miter mid mver since (seen ++ [b]) c)))
    (hσm : σ[mid]? = some (mver, some (.map kvs (some (bs, c))))) (hb : bs[i]? = some b) (hik : i < kvs.length) : OpSpec cx n fr σ o (.tup [kvs[i].1, kvs[i].2]) σ := by
  intro r a w hi hf
  have hv := ev_rel hi hf x
  rw [hx0] at hv
  rcases hi.box id ver _ hσ with ⟨ib, o', hρ, hbx⟩ | ⟨_, ro, h⟩
  case inr => cases h
  obtain ⟨rfl, mb, hρm, hib⟩ := hbx
  rcases hi.box mid mver _ hσm with ⟨mb', o', hρ2, hbm⟩ | ⟨_, ro, h⟩
  case inr => cases h
  obtain ⟨rfl, es, clock, hmb, hm⟩ := hbm
  rw [hρm] at hρ2
  obtain rfl : mb = mb' := by cases hρ2; rfl
  obtain ⟨hbs, hck⟩ := hm.2.2.2.2 _ _ rfl
  subst hck
  have he : a.eval x = .pointer (some ⟨ib, 0, none⟩) := by
    generalize a.eval x = z at hv
    cases hv with
    | ptr h => rw [hρ] at h; cases h; rfl
  obtain ⟨e, k1, k2, k3⟩ := hm.2.1 i hik
  have hbe : e.born = b := by
    rw [← hbs, List.getElem?_map, Array.getElem?_toList, k1] at hb
    exact Option.some.inj hb
  have hnd : (es.toList.map (·.born)).Nodup := by
    refine List.pairwise_iff_getElem.2 (fun p q hp hq hpq hee => ?_)
    rw [List.length_map, Array.length_toList] at hp hq
    simp only [List.getElem_map, Array.getElem_toList] at hee
    have := hm.2.2.1 p q _ _ (Array.getElem?_eq_getElem hp) (Array.getElem?_eq_getElem hq) hee
    omega
  have hrun := run_entry_at (P := cx.P) w ib mb since seen.toArray es clock e (by rw [hbe]; simpa using hib) hmb (by rw [← Array.mem_def]; exact Array.mem_of_getElem? k1) hnd
  refine ⟨r, w, .tuple #[e.key, e.val], .inl ?_, .tup rfl (fun j hj => ?_), hi, Ext.refl _ _ _⟩
  · obtain ⟨dst, op, ty, ps, aft, guard⟩ := o
    simp only at ho
    subst ho
    refine exec_v ?_
    rw [he]; exact hrun
  · simp only [List.length_cons, List.length_nil] at hj
    rcases j with _ | _ | j
    · exact k2
    · exact k3
    · omega
end
end Go.Ab
end
section
set_option linter.unusedVariables false
set_option linter.unusedSimpArgs false
namespace Go.Ab
open Go
section
variable {cx : Cx} {n : Nat} {B : Bs} {k : List AI} {Q : Post} {fr : Fr} {σ : Heap}
theorem pan (f : Nat) {k k' : List AI} {fr fr' : Fr} {σ σ' : Heap} {C : List Prop} (hs : List Ht) {hs' : List Ht} (h : runP cx [] n f [] hs k fr σ = ⟨C, k', fr', σ', hs'⟩) (hC : AllP C)
    (hk : S cx n B k' Q fr' σ') : S cx n B k Q fr σ := by
  have hg := runP_sound (M := []) (cx := cx) (n := n) (B := B) (Q := Q) f [] hs k fr σ
  rw [h] at hg
  exact (hg hC).2 hk
end
theorem Calc.weak {cx : Cx} {f : FuncId} {args : List AV} {res res' : AV} (h : Calc cx f args res) (hf : Free true res') (hw : ∀ r w v, VRel r w v res → VRel r w v res') : Calc cx f args res' := by
  refine ⟨hf, h.call.1, fun r w vs hi hv => (h.call.2 r w vs hi hv).mono fun e w' ⟨out, σ', r', ⟨ho, hσ⟩, hor, hi', hx'⟩ => ?_⟩
  subst ho
  cases e with
  | returned u => exact ⟨.ret res', σ', r', ⟨rfl, hσ⟩, hw _ _ _ hor, hi', hx'⟩
  | panicked chain => exact hor.elim
  | outgrown => exact hor.elim
end Go.Ab
end
section
set_option linter.unusedVariables false
set_option linter.unusedSimpArgs false
namespace Go.Ab
open Go
def MethP (P : Program) (T : TypeId) (name : String) (f : FuncId) : Prop := ∀ v w, (method (P.types.size + Made.depth) T v name).run P w = .ok (f, v) w
def MethL (P : Program) (T : TypeId) (name : String) (f : FuncId) (el : TypeId) : Prop := ∀ a w, (method (P.types.size + Made.depth) T (.pointer (some a)) name).run P w = ((loadVar el a).run P w).andThen fun x w' => .ok (f, x) w'
inductive Recv (cx : Cx) (σ : Heap) (T : TypeId) (name : String) (f : FuncId) : AV → AV → Prop
  | val {v} (h : MethP cx.P T name f) : Recv cx σ T name f v v
  | load {id ver off : Nat} {cs : List AV} {g : Tag} {el : TypeId} {x : AV} (h : MethL cx.P T name f el) (hb : boxAt σ id = some (ver, cs, g)) (hl : aLoad cx.P el (cs.drop off) = some x) : Recv cx σ T name f (.ptr id ver off) x
theorem Recv.run {cx : Cx} {r : Rl} {σ : Heap} {w : World} {T : TypeId} {name : String} {f : FuncId} {v x : AV} {z : Value} (hi : Inv cx r σ w) (h : Recv cx σ T name f v x) (hz : VRel r w z v) :
    ∃ u, (method (cx.P.types.size + Made.depth) T z name).run cx.P w = .ok (f, u) w ∧ VRel r w u x := by
  cases h with
  | val h => exact ⟨z, h z w, hz⟩
  | load h hb hl =>
    cases hz with
    | ptr hρ =>
      rename_i b' o _ _ _
      obtain ⟨v', h1, h2⟩ := aLoad_run (P := cx.P) ((hi.cells hb rfl hρ).cells'.drop _) hl
      exact ⟨v', by rw [h]; rw [h1]; rfl, h2⟩
section
variable {cx : Cx} {n : Nat} {B : Bs} {k : List AI} {Q : Post} {fr : Fr} {σ : Heap}
theorem OpSpec.store {o : Oper} {C : List Prop} {σ' : Heap} (h : storeA cx fr σ o.op = some (C, σ')) (hC : AllP C) : OpSpec cx n fr σ o (.tup []) σ' := by
  intro r a w hi hf
  have he : ∀ x, VRel r w (a.eval x) (ev cx fr x) := fun x => ev_rel hi hf x
  obtain ⟨dst, op, ty, pos, aft, guard⟩ := o
  simp only at h
  unfold storeA at h
  split at h
  case h_2 => cases h
  rename_i t s x
  have hs := he s
  have hx := he x
  split at h
  case h_2 => cases h
  rename_i m hm
  split at h
  case h_3 => cases h
  all_goals
    rename_i id ver off hse
    rw [hse] at hs
    split at h
    case h_2 => cases h
    rename_i cur cs hσ
    simp only [Option.some.injEq, Prod.mk.injEq] at h; obtain ⟨rfl, rfl⟩ := h
    obtain ⟨h1, h2, h3, h4, _⟩ := hC
    unfold execOp
    try simp only
    generalize hz : a.eval s = z at hs
    cases hs
    rename_i b o' hρ
    obtain ⟨w', r', k1, k2, k3⟩ := store_main hi hm hσ h3 h4 h1 (allOne_mem h2) hx hρ
    refine ⟨r', w', undef, .inr ⟨?_, rfl⟩, .tup rfl (fun i h => absurd h (by simp)), k2, k3⟩
    simp [Instr.storeAt, Instr.sureAddr, k1]
end
end Go.Ab
end
section
set_option linter.unusedVariables false
set_option linter.unusedSimpArgs false
namespace Go.Ab
open Go
theorem CallOk.frame {cx : Cx} {f : FuncId} {args args' : List AV} {σ σs σs' es : Heap} {x x' : AV} (ids : List Nat) (h : CallOk cx f args σs (fun e s => e = .ret x ∧ s = σs')) (ha : Rns ids args args') (hp : Part ids σs σ)
    (hes : RnH (ids ++ newIds σ.length (es.length - ids.length)) σs' es) (hx : Rn (ids ++ newIds σ.length (es.length - ids.length)) x x') : CallOk cx f args' σ (fun e s => e = .ret x' ∧ s = putAll σ ids es) := by
  refine ⟨h.1, fun r w vs hi hv => ?_⟩
  have hsub := frame_down hi hp
  have hvs : VRels (r.sub ids) w vs args := by
    refine ⟨hv.1.trans ha.1.symm, fun i hi' => ?_⟩
    refine (ha.2 i hi' (by rw [← ha.1]; exact hi')).down (r := r) (r' := r.sub ids) (fun _ h => h) (fun _ h => h) hi.SI (fun i j ver p h1 h2 => ?_) (hv.2 i (by rw [← ha.1]; exact hi'))
    simp only [Rl.sub, h1]; exact h2
  refine (h.2 _ w vs hsub hvs).mono fun e w' ⟨out, σ1, r1, hRo, ho, hi1, hx1⟩ => ?_
  obtain ⟨rfl, rfl⟩ := hRo
  obtain ⟨q1, q2, q3⟩ := frame_up hi hp hi1 hx1 rfl hes
  cases e with
  | returned u => exact ⟨.ret x', _, _, ⟨rfl, rfl⟩, q3 _ _ _ hx ho, q1, q2⟩
  | panicked chain => exact ho.elim
  | outgrown => exact ho.elim
theorem CallOk.fresh {cx : Cx} {f : FuncId} {args : List AV} {σs es : Heap} {x x' : AV} (σ : Heap) (h : CallOk cx f args [] (fun e s => e = .ret x ∧ s = σs)) (ha : ∀ a ∈ args, Free false a) (hes : RnH (newIds σ.length es.length) σs es) (hx : Rn (newIds σ.length es.length) x x') :
    CallOk cx f args σ (fun e s => e = .ret x' ∧ s = σ ++ es) := by
  have := CallOk.frame (σ := σ) (es := es) [] h (Rns.free ha) ⟨List.nodup_nil, (fun j hj => by cases hj), rfl, (fun i j e hi => by simp at hi)⟩ (by simpa using hes) (x' := x') (by simpa using hx)
  simpa only [putAll] using this
end Go.Ab
end
section
set_option linter.unusedVariables false
set_option linter.unusedSimpArgs false
namespace Go.Ab
open Go
structure KeyLaw {α : Type} [DecidableEq α] (cx : Cx) (kt : TypeId) (key : α → AV) : Prop where
  check : ∀ (e : Bool) (r : Rl) (w : World) (v : Value) (a : α), VRel r w v (key a) → (Instr.checkKey e 10000 kt v).run cx.P w = .ok () w
  equal : ∀ (r : Rl) (w : World) (u v : Value) (a b : α), VRel r w u (key a) → VRel r w v (key b) → (Op.equal kt u v).run cx.P w = .ok (decide (a = b)) w
  bits : ∀ (r : Rl) (w : World) (u v : Value) (a : α), VRel r w u (key a) → VRel r w v (key a) → Instr.sameBits 10000 u v = true
  slow : ∃ d, cx.P.underlying kt = some d ∧ ∀ k e l i, Instr.findNow d k (e :: l) i = none
def fieldsFit (P : Program) : List Field → List AV → Bool
  | [], _ => true
  | f :: fs, xs => match aLoad P f.type (xs.drop f.offset) with
    | some y => keyFits P f.type y && fieldsFit P fs xs
    | none => false
theorem checkKey_one {P : Program} {w : World} {k : TypeId} {key : Value} {r : Rl} {a : AV} (e : Bool) (d : Nat) (h : keyFits P k a = true) (ha : VRel r w key a) : (Instr.checkKey e (d + 1) k key).run P w = .ok () w := by
  obtain ⟨q, hu, hd⟩ := keyFits_spec h
  unfold Instr.checkKey
  rcases hd with ⟨rfl, s, rfl⟩ | ⟨j, rfl, n, m, rfl⟩ | ⟨rfl, x, rfl⟩ <;> cases ha <;> simp [run_underlying hu]
theorem checkKey_struct {P : Program} {w : World} {k : TypeId} {v : Value} {r : Rl} {az : List AV} {fs : Array Field} (e : Bool) (hu : P.underlying k = some (.struct fs)) (hf : fieldsFit P fs.toList az = true) (ha : VRel r w v (.agg az)) : (Instr.checkKey e 10000 k v).run P w = .ok () w := by
  have hva : ∃ xs, v = .agg xs := by cases ha; exact ⟨_, rfl⟩
  obtain ⟨xs, rfl⟩ := hva
  show (Instr.checkKey e (9998 + 1 + 1) k (.agg xs)).run P w = _
  rw [Instr.checkKey]
  simp only [Sem.run_bind, run_underlying hu, Result.andThen_ok]
  rw [← Array.forIn_toList]
  generalize fs.toList = L at hf
  induction L with
  | nil => simp
  | cons f L ih =>
    rw [fieldsFit] at hf
    split at hf
    case h_2 => cases hf
    rename_i y hy
    rw [Bool.and_eq_true] at hf
    obtain ⟨z, p1, p2⟩ := part_run ha hy
    have p3 := checkKey_one e 9998 hf.1 p2
    by_cases hn : f.name = "_"
    · simp only [List.forIn_cons, Sem.run_bind, hn, ne_eq, not_true_eq_false, if_false, Result.andThen_ok, Sem.run_pure]
      exact ih hf.2
    · simp only [List.forIn_cons, Sem.run_bind, hn, ne_eq, not_false_eq_true, if_true, Result.andThen_ok, p1, p3, Sem.run_pure]
      exact ih hf.2
theorem equal_struct {P : Program} {w : World} {t : TypeId} {u v : Value} {r : Rl} {az bs : List AV} {fs : Array Field} {b : Bool} (ht : P.underlying t = some (.struct fs)) (hc : cmpOk P t = true) (hb : eqFs P fs.toList az bs = some b) (hx : VRel r w u (.agg az)) (hy : VRel r w v (.agg bs)) :
    (Op.equal t u v).run P w = .ok b w := by
  have hxa : ∃ xs, u = .agg xs := by cases hx; exact ⟨_, rfl⟩
  have hya : ∃ xs, v = .agg xs := by cases hy; exact ⟨_, rfl⟩
  obtain ⟨xs, rfl⟩ := hxa
  obtain ⟨ys, rfl⟩ := hya
  have hfo : P.fieldsOf t = fs := by simp [Program.fieldsOf, ht]
  unfold cmpOk at hc
  rw [ht] at hc
  simp only [Bool.and_eq_true, Bool.not_eq_true', List.all_eq_true, bne_iff_ne] at hc
  show (Op.equalIn (9998 + 1 + 1) t _ _).run P w = _
  rw [run_equalIn_struct w (9998 + 1) t xs ys (by rw [hfo]; exact ht) hc.1.1, hfo]
  exact eqFs_run 9998 hx hy fs.toList hb hc.2
def plainA : AV → Bool
  | .str _ => true
  | .int _ _ => true
  | .bool _ => true
  | _ => false
theorem bits_one {r : Rl} {w : World} {u v : Value} {a : AV} (d : Nat) (h : plainA a = true) (hu : VRel r w u a) (hv : VRel r w v a) : Instr.sameBits d u v = true := by
  cases a <;> first | cases h | skip
  · cases hu; cases hv; unfold Instr.sameBits; simp
  · cases hu; cases hv; unfold Instr.sameBits; simp
  · cases hu with
    | str h1 =>
      cases hv with
      | str h2 =>
        unfold Instr.sameBits
        exact (MapKept.bytes_beq _ _).2 (ByteArray.ext (Array.toList_inj.1 (h1.trans h2.symm)))
theorem bits_struct {r : Rl} {w : World} {u v : Value} {az : List AV} (h : az.all plainA = true) (hu : VRel r w u (.agg az)) (hv : VRel r w v (.agg az)) : Instr.sameBits 10000 u v = true := by
  cases hu with
  | agg hn h1 =>
    cases hv with
    | agg hm h2 =>
      rename_i xs ys
      unfold Instr.sameBits
      rw [Bool.and_eq_true]
      refine ⟨by simp [hn, hm], ?_⟩
      rw [List.all_eq_true]
      rintro ⟨x, y⟩ hxy
      obtain ⟨i, hi, e⟩ := List.getElem_of_mem hxy
      rw [List.length_zip, Array.length_toList, Array.length_toList] at hi
      rw [List.getElem_zip] at e
      have hia : i < az.length := by omega
      have k1 := h1 i hia
      have k2 := h2 i hia
      have e1 : xs.getD i undef = x := by
        rw [Array.getD_eq_getD_getElem?, Array.getElem?_eq_getElem (by omega)]
        exact (congrArg Prod.fst e)
      have e2 : ys.getD i undef = y := by
        rw [Array.getD_eq_getD_getElem?, Array.getElem?_eq_getElem (by omega)]
        exact (congrArg Prod.snd e)
      rw [e1] at k1; rw [e2] at k2
      exact bits_one _ (List.all_eq_true.1 h _ (List.getElem_mem hia)) k1 k2
theorem KeyLaw.struct {α : Type} [DecidableEq α] {cx : Cx} {kt : TypeId} {fs : Array Field} {parts : α → List AV} (hu : cx.P.underlying kt = some (.struct fs)) (hc : cmpOk cx.P kt = true) (hf : ∀ a, fieldsFit cx.P fs.toList (parts a) = true) (hp : ∀ a, (parts a).all plainA = true)
    (he : ∀ a b, eqFs cx.P fs.toList (parts a) (parts b) = some (decide (a = b))) : KeyLaw cx kt (fun a => .agg (parts a)) where
  check := fun e r w v a h => checkKey_struct e hu (hf a) h
  equal := fun r w u v a b h1 h2 => equal_struct hu hc (he a b) h1 h2
  bits := fun r w u v a h1 h2 => bits_struct (hp a) h1 h2
  slow := ⟨_, hu, fun k e l i => rfl⟩
section
variable {α : Type} [DecidableEq α]
def mapG (key : α → AV) (ks : List α) (val : α → AV) : List (AV × AV) := ks.map fun k => (key k, val k)
theorem KeyLaw.find {cx : Cx} {kt : TypeId} {key : α → AV} (L : KeyLaw cx kt key) {r : Rl} {w : World} {a : α} {k : Value} (hk : VRel r w k (key a)) : ∀ (es : List MapEntry) (ks : List α) (i : Nat), es.length = ks.length → (∀ j (h : j < ks.length), ∃ e, es[j]? = some e ∧ VRel r w e.key (key ks[j])) →
    (a ∉ ks ∧ (Instr.findAsking kt k es i).run cx.P w = .ok none w) ∨ (a ∈ ks ∧ ∃ e, es[ks.idxOf a]? = some e ∧ (Instr.findAsking kt k es i).run cx.P w = .ok (some (i + ks.idxOf a, e.val)) w)
  | [], [], i, _, _ => .inl ⟨by simp, by simp [Instr.findAsking]⟩
  | [], _ :: _, _, hl, _ => by simp at hl
  | _ :: _, [], _, hl, _ => by simp at hl
  | e :: es, x :: ks, i, hl, hr => by
    obtain ⟨e0, q1, q2⟩ := hr 0 (by simp)
    simp only [List.getElem?_cons_zero, Option.some.injEq, List.getElem_cons_zero] at q1 q2
    subst q1
    have heq := L.equal r w k e.key a x hk q2
    by_cases hax : a = x
    · subst hax
      refine .inr ⟨by simp, e, by simp, ?_⟩
      rw [decide_eq_true rfl] at heq
      rw [Instr.findAsking]
      simp only [Sem.run_bind, heq, Result.andThen_ok, if_true, Sem.run_pure, List.idxOf_cons_self, Nat.add_zero]
    · rw [decide_eq_false hax] at heq
      have hf : (Instr.findAsking kt k (e :: es) i).run cx.P w = (Instr.findAsking kt k es (i + 1)).run cx.P w := by
        conv => lhs; rw [Instr.findAsking]
        simp [heq]
      have hx : (x == a) = false := by simpa using Ne.symm hax
      rcases KeyLaw.find L hk es ks (i + 1) (by simpa using hl) (fun j hj => by
        obtain ⟨e', m1, m2⟩ := hr (j + 1) (by simp; omega)
        exact ⟨e', by simpa using m1, by simpa using m2⟩) with ⟨h1, h2⟩ | ⟨h1, e', h2, h3⟩
      · exact .inl ⟨by simp [hax, h1], by rw [hf]; exact h2⟩
      · refine .inr ⟨List.mem_cons_of_mem _ h1, e', ?_, ?_⟩
        · rw [List.idxOf_cons, hx]; simpa using h2
        · rw [hf, h3, List.idxOf_cons, hx]
          simp only [cond_false]
          rw [show i + 1 + ks.idxOf a = i + (ks.idxOf a + 1) by omega]
theorem KeyLaw.findKey {cx : Cx} {kt : TypeId} {key : α → AV} (L : KeyLaw cx kt key) {r : Rl} {w : World} {a : α} {k : Value} (hk : VRel r w k (key a)) {es : Array MapEntry} {clock : Nat} {ks : List α} {val : α → AV} {st : Option (List Nat × Nat)} (hm : MapIs r w es clock (mapG key ks val) st) :
    (a ∉ ks ∧ (Instr.findKey kt k es.toList).run cx.P w = .ok none w) ∨ (a ∈ ks ∧ ∃ e, es[ks.idxOf a]? = some e ∧ VRel r w e.val (val a) ∧ VRel r w e.key (key a) ∧ (Instr.findKey kt k es.toList).run cx.P w = .ok (some (ks.idxOf a, e.val)) w) := by
  have hlen : (mapG key ks val).length = ks.length := by simp [mapG]
  have hat : ∀ j (h : j < ks.length), ∃ e, es[j]? = some e ∧ VRel r w e.key (key ks[j]) ∧ VRel r w e.val (val ks[j]) := by
    intro j hj
    obtain ⟨e, h1, h2, h3⟩ := hm.2.1 j (by omega)
    refine ⟨e, h1, ?_, ?_⟩
    · simpa [mapG] using h2
    · simpa [mapG] using h3
  obtain ⟨d, hd, hs⟩ := L.slow
  have h := L.find hk es.toList ks 0 (by rw [Array.length_toList, hm.1, hlen]) (fun j hj => by
    obtain ⟨e, h1, h2, _⟩ := hat j hj
    exact ⟨e, by rw [Array.getElem?_toList]; exact h1, h2⟩)
  have hfk : (Instr.findKey kt k es.toList).run cx.P w = (Instr.findAsking kt k es.toList 0).run cx.P w := by
    unfold Instr.findKey
    cases hes : es.toList with
    | nil => simp [run_underlying hd, Instr.findNow, Instr.findAsking]
    | cons e l => simp [run_underlying hd, hs]
  rw [hfk]
  rcases h with h | ⟨h1, e, h2, h3⟩
  · exact .inl h
  · refine .inr ⟨h1, e, by rw [← Array.getElem?_toList]; exact h2, ?_, ?_, by rw [h3, Nat.zero_add]⟩
    · obtain ⟨e', m1, m2, m3⟩ := hat _ (List.idxOf_lt_length_of_mem h1)
      rw [Array.getElem?_toList, m1] at h2
      obtain rfl := Option.some.inj h2
      rw [List.getElem_idxOf] at m3; exact m3
    · obtain ⟨e', m1, m2, m3⟩ := hat _ (List.idxOf_lt_length_of_mem h1)
      rw [Array.getElem?_toList, m1] at h2
      obtain rfl := Option.some.inj h2
      rw [List.getElem_idxOf] at m2; exact m2
variable {cx : Cx} {n : Nat} {fr : Fr} {σ : Heap}
end
end Go.Ab
end
section
set_option linter.unusedVariables false
set_option linter.unusedSimpArgs false
namespace Go.Ab
open Go
section
variable {cx : Cx} {n : Nat} {B : Bs} {k : List AI} {Q : Post} {fr : Fr} {σ : Heap}
theorem wpAny_frontG {σ' : Heap} {hp : Array Bool → Heap} {ops : Array Oper} {m : Nat} {vals : List AV} {K : List Nat} {Q' : Exit → Act → World → Prop} (hmN : m ≤ ops.size) (hlen : vals.length = m)
    (hread : ∀ j o t, j < m → ops.toList[j]? = some o → t ∈ slotsOf ops.toList o → readOk ops.toList m j t = true)
    (huniq : ∀ i j d, i < m → j < m → dstOf ops.toList i = some d → dstOf ops.toList j = some d → i = j)
    (hch : ∀ j, m < j → j < ops.size → edge ops.toList j (j - 1) = true) (hlo : ∀ j i, edge ops.toList j i = true → i < j)
    (hcl : m < ops.size → ∀ i, i < m → ∃ k, i < k ∧ k ≤ m ∧ edge ops.toList k i = true)
    (hin : ∀ listed : Array Bool, (∀ j, j < m → Listed listed j) → hp listed = σ') (hdst : ∀ (j : Nat) (o : Oper), j < m → ops.toList[j]? = some o → dstOk n o.dst = true)
    (hstep : ∀ (j : Nat) o v, j < m → ops.toList[j]? = some o → vals[j]? = some v → ∀ listed : Array Bool, listed.size = ops.size → ¬ Listed listed j → (∀ i, edge ops.toList j i = true → Listed listed i) → Down ops.toList listed → StepX cx n ops (hp listed) (hp (listed.setIfInBounds j true)) K (restr ops.toList o (ovl (ops.toList.take j) (vals.take j) fr)) o v)
    (hend : ∀ r a w, Inv cx r σ' w → FRel r w n (ovl (ops.toList.take m) vals fr) a → Dfs B a → Ext B.r B.σ B.w r σ' w → wpList cx.P ops Q' (ops.toList.drop m) a w) :
    ∀ (f : Nat) (listed : Array Bool) (r : Rl) (a : Act) (w : World), listed.size = ops.size → unl listed = f → Down ops.toList listed → (∀ j, m ≤ j → ¬ Listed listed j) →
      FL r w n fr ops.toList m vals listed a → Inv cx r (hp listed) w → Dfs B a → Ext B.r B.σ B.w r (hp listed) w → wpAny cx.P .any ops Q' f listed a w := by
  have ovlN : ∀ i, i ≤ m → ∀ vs, (ovl (ops.toList.take i) (vals.take i) fr).get n = .mark vs → fr.get n = .mark vs := by
    intro i him vs hm
    rcases ovl_get (ops.toList.take i) (vals.take i) fr n (by simp [hlen]; omega) with ⟨i', o', v', k1, k2, k3, k4⟩ | ⟨k1, k2⟩
    · exfalso
      have hi'i : i' < i := by
        rcases Nat.lt_or_ge i' i with h' | h'
        · exact h'
        · rw [List.getElem?_eq_none (by simp; omega)] at k1; cases k1
      rw [List.getElem?_take_of_lt hi'i] at k1 k3
      have hds : dstOk n o'.dst = true := hdst i' o' (by omega) k1
      rw [k2] at hds
      have := blt_lt hds
      omega
    · rw [← k2]; exact hm
  have fin : ∀ (f : Nat) (listed : Array Bool) (r : Rl) (a : Act) (w : World), listed.size = ops.size → unl listed = f → (∀ j, j < m → Listed listed j) → (∀ j, m ≤ j → ¬ Listed listed j) →
      FL r w n fr ops.toList m vals listed a → Inv cx r (hp listed) w → Dfs B a → Ext B.r B.σ B.w r (hp listed) w → wpAny cx.P .any ops Q' f listed a w := by
    intro f listed r a w hs hf hall hno hfl hi hd hx
    rw [hin _ hall] at hi hx
    have hcount : unl listed + m = ops.size := by
      have hl : listed.toList = List.replicate m true ++ List.replicate (ops.size - m) false := by
        apply List.ext_getElem
        · simp; omega
        · intro j h1 h2
          have hj : j < listed.size := by simpa using h1
          have h3 : listed.getD j false = listed.toList[j] := by simp [Array.getD_eq_getD_getElem?, hj]
          by_cases hjm : j < m
          · rw [List.getElem_append_left (by simpa using hjm), List.getElem_replicate, ← h3]; exact hall j hjm
          · rw [List.getElem_append_right (by simp; omega), List.getElem_replicate, ← h3]
            have := hno j (by omega)
            unfold Listed at this
            simpa using this
      unfold unl
      rw [hl, List.countP_append, List.countP_replicate, List.countP_replicate]
      simp; omega
    refine wpAny_tail hch hlo f m listed a w (by omega) (Nat.le_refl m) hs (fun i hi' => ⟨fun h => ?_, fun h => hall i h⟩) (hend r a w hi ⟨hfl.size, fun t => ?_, fun vs hm => ?_⟩ hd hx)
    case refine_3 =>
      refine hfl.defs vs (ovlN m (Nat.le_refl _) vs ?_)
      rw [show vals.take m = vals from List.take_of_length_le (by omega)]
      exact hm
    · rcases Nat.lt_or_ge i m with h' | h'
      · exact h'
      · exact absurd h (hno i h')
    · rcases ovl_get (ops.toList.take m) vals fr t (by simp [hlen]; omega) with ⟨i, o, v, h1, h2, h3, h4⟩ | ⟨h1, h2⟩
      · rw [h4]
        have him : i < m := by
          rcases Nat.lt_or_ge i m with h' | h'
          · exact h'
          · rw [List.getElem?_eq_none (by simp; omega)] at h1; cases h1
        rw [List.getElem?_take_of_lt him] at h1
        exact hfl.done i t v him (hall i him) (by simp [dstOf, h1, h2]) h3
      · rw [h2]
        refine hfl.rest t (fun j hj _ hdj => ?_)
        obtain ⟨o, ho, hod⟩ := Option.bind_eq_some_iff.1 hdj
        exact h1 j o (by rw [List.getElem?_take_of_lt hj]; exact ho) hod
  intro f
  induction f with
  | zero =>
    intro listed r a w hs hf hdn hno hfl hi hd hx
    refine fin 0 listed r a w hs hf (fun j hj => ?_) hno hfl hi hd hx
    rcases hb : listed.getD j false with _ | _
    · have := unl_set (by omega) hb
      omega
    · exact hb
  | succ f ih =>
    intro listed r a w hs hf hdn hno hfl hi hd hx
    by_cases hall : ∀ j, j < m → Listed listed j
    · exact fin (f + 1) listed r a w hs hf hall hno hfl hi hd hx
    have hex : ∃ j, j < m ∧ ¬ Listed listed j := by
      apply Classical.byContradiction
      intro h
      exact hall (fun j hj => Classical.byContradiction fun hl => h ⟨j, hj, hl⟩)
    refine ⟨fun h0 => ?_, fun i hir => ?_⟩
    · obtain ⟨j, h1, h2, h3⟩ := exists_least m hex
      have hjr : j ∈ Region.ready .any ops listed := by
        refine mem_ready.2 ⟨?_, ops[j]'(by omega), Array.getElem?_eq_getElem _, fun e he hb => ?_⟩
        · rw [listed_true (by omega)]; simpa [Listed] using h2
        · have h4 : e.on < j := hlo j e.on (edge_iff.2 ⟨ops[j]'(by omega), Array.getElem?_eq_getElem _, e, he, hb, rfl⟩)
          exact Classical.byContradiction fun h5 => h3 e.on h4 h5
      rw [h0] at hjr; cases hjr
    · obtain ⟨h0, o, ho, hedges⟩ := mem_ready.1 hir
      have hilt := (Array.getElem?_eq_some_iff.1 ho).1
      rw [listed_true (by omega)] at h0
      have hed : ∀ j, edge ops.toList i j = true → Listed listed j := by
        intro j hj
        obtain ⟨o', ho', e, he, hb, hon⟩ := edge_iff.1 hj
        rw [ho] at ho'; cases ho'
        rw [← hon]; exact hedges e he hb
      have him : i < m := by
        rcases Nat.lt_or_ge i m with h' | h'
        · exact h'
        · exfalso
          rcases Nat.eq_or_lt_of_le h' with h'' | h''
          · subst h''
            refine hall (fun j hj => ?_)
            have key : ∀ d j, d + j = m → j < m → Listed listed j := by
              intro d
              induction d using Nat.strongRecOn with
              | _ d ihd =>
                intro j hdj hj
                obtain ⟨k, h1, h2, h3⟩ := hcl hilt j hj
                rcases Nat.eq_or_lt_of_le h2 with h4 | h4
                · subst h4; exact hed j h3
                · exact hdn k j (ihd (m - k) (by omega) k (by omega) h4) h3
            exact key (m - j) j (by omega) hj
          · exact hno (i - 1) (by omega) (hed _ (hch i h'' hilt))
      have hol : ops.toList[i]? = some o := by simpa using ho
      obtain ⟨v, hv⟩ : ∃ v, vals[i]? = some v := ⟨vals[i]'(by omega), List.getElem?_eq_getElem _⟩
      have hX : StepX cx n ops (hp listed) (hp (listed.setIfInBounds i true)) K (restr ops.toList o (ovl (ops.toList.take i) (vals.take i) fr)) o v :=
        hstep i o v him hol hv listed hs (by simp [Listed, h0]) hed hdn
      obtain ⟨hdstI, hst⟩ := hX
      have hnl : ¬ Listed listed i := by simp [Listed, h0]
      have hfr : FRel r w n (restr ops.toList o (ovl (ops.toList.take i) (vals.take i) fr)) a := by
        refine ⟨hfl.size, fun t => ?_, fun vs hm => ?_⟩
        case refine_2 =>
          unfold restr at hm
          rcases restr_get (slotsOf ops.toList o) (ovl (ops.toList.take i) (vals.take i) fr) n with h | ⟨h1, h2⟩
          · rw [h] at hm; cases hm
          · rw [h2] at hm
            exact hfl.defs vs (ovlN i (by omega) vs hm)
        unfold restr
        rcases restr_get (slotsOf ops.toList o) (ovl (ops.toList.take i) (vals.take i) fr) t with h | ⟨h1, h2⟩
        · rw [h]; exact .top
        · rw [h2]
          have hro := hread i o t him hol h1
          have hrd : ∀ i', i' < m → dstOf ops.toList i' = some t → (i' < i → edge ops.toList i i' = true) ∧ (i < i' → edge ops.toList i' i = true) := by
            intro i' hi' hd'
            have := allB_mem hro _ (List.mem_map.2 ⟨i', List.mem_range.2 hi', rfl⟩)
            rw [eqDst_iff.2 hd'] at this
            simp only at this
            constructor
            · intro hlt
              rw [lt_blt hlt] at this
              exact this
            · intro hlt
              rw [show Nat.blt i' i = false by cases hbb : Nat.blt i' i with | false => rfl | true => (have := blt_lt hbb; omega), show Nat.beq i' i = false by cases hbb : Nat.beq i' i with | false => rfl | true => (have := Nat.eq_of_beq_eq_true hbb; omega)] at this
              exact this
          rcases ovl_get (ops.toList.take i) (vals.take i) fr t (by simp [hlen]; omega) with ⟨i', o', v', k1, k2, k3, k4⟩ | ⟨k1, k2⟩
          · rw [k4]
            have hi'i : i' < i := by
              rcases Nat.lt_or_ge i' i with h' | h'
              · exact h'
              · rw [List.getElem?_eq_none (by simp; omega)] at k1; cases k1
            rw [List.getElem?_take_of_lt hi'i] at k1 k3
            have hd' : dstOf ops.toList i' = some t := by simp only [dstOf, k1, Option.bind_some, k2]
            exact hfl.done i' t v' (by omega) (hed _ ((hrd i' (by omega) hd').1 hi'i)) hd' k3
          · rw [k2]
            refine hfl.rest t (fun j hj hlj hdj => ?_)
            rcases Nat.lt_trichotomy j i with h' | h' | h'
            · obtain ⟨oj, hoj, hod⟩ := Option.bind_eq_some_iff.1 hdj
              exact k1 j oj (by rw [List.getElem?_take_of_lt h']; exact hoj) hod
            · subst h'; exact hnl hlj
            · exact hnl (hdn j i hlj ((hrd j hj hdj).2 h'))
      have next : ∀ (r' : Rl) (w' : World) (v' : Value), VRel r' w' v' v → Inv cx r' (hp (listed.setIfInBounds i true)) w' → Ext r (hp listed) w r' (hp (listed.setIfInBounds i true)) w' → wpAny cx.P .any ops Q' f (listed.setIfInBounds i true) (a.put o.dst v') w' := by
        intro r' w' v' hv' hi' hx'
        have hun := unl_set (by omega) h0
        refine ih _ r' _ w' (by simpa using hs) (by omega) (fun j l hj he => ?_) (fun j hj hl => ?_) ⟨?_, fun j d u hj hl hdj hu => ?_, fun t ht => ?_, fun vs hm => by rw [Act.put_defers]; exact (hfl.defs vs hm).mono (hx'.grow hi)⟩ hi' (hd.put _ _) (hx.trans hx')
        · rw [listed_set (by omega)] at hj ⊢
          rcases hj with rfl | hj
          · exact .inr (hed l he)
          · exact .inr (hdn j l hj he)
        · rw [listed_set (by omega)] at hl
          rcases hl with rfl | hl
          · omega
          · exact hno j hj hl
        · cases hod : o.dst <;> simp [Act.put, hfl.size]
        · have hg := hx'.grow hi
          rw [listed_set (by omega)] at hl
          by_cases hji : j = i
          · subst hji
            rw [hv] at hu; cases hu
            have hod : o.dst = some d := by simpa [dstOf, hol] using hdj
            rw [hod]
            rw [hod] at hdstI
            simp only [Act.put]
            rw [getD_setIfInBounds (by rw [hfl.size]; exact blt_lt hdstI), if_pos rfl]
            exact hv'
          · have hl' := hl.resolve_left hji
            have hold := (hfl.done j d u hj hl' hdj hu).mono hg
            cases hod : o.dst with
            | none => exact hold
            | some d' =>
              have hne : d' ≠ d := fun e => hji (huniq j i d hj him hdj (by subst e; simp [dstOf, hol, hod]))
              rw [hod] at hdstI
              simp only [Act.put]
              rw [getD_setIfInBounds (by rw [hfl.size]; exact blt_lt hdstI), if_neg hne]
              exact hold
        · have hg := hx'.grow hi
          have hold := (hfl.rest t (fun j hj hl => ht j hj ((listed_set (by omega)).2 (.inr hl)))).mono hg
          have hti := ht i him ((listed_set (by omega)).2 (.inl rfl))
          cases hod : o.dst with
          | none => exact hold
          | some d' =>
            have hne : d' ≠ t := fun e => hti (by subst e; simp [dstOf, hol, hod])
            rw [hod] at hdstI
            simp only [Act.put]
            rw [getD_setIfInBounds (by rw [hfl.size]; exact blt_lt hdstI), if_neg hne]
            exact hold
      unfold wpOp
      simp only [ho]
      rcases hst with ⟨hg, rfl, hσ⟩ | ⟨hg, hgo⟩
      · rw [guardA_wanted (cx := cx) hfr hg]
        simp only [Bool.false_eq_true, if_false]
        exact next r w undef (.tup rfl (fun i h => absurd h (by simp))) (by rw [hσ]; exact hi) (by rw [hσ]; exact Ext.refl _ _ _)
      · rw [guardA_wanted (cx := cx) hfr hg]
        simp only [if_true]
        refine .inl (Oper.wp_mono (fun a' w' h => ?_) (hgo r a w hi hfr Q'))
        obtain ⟨r', v', rfl, h2, h3, h4⟩ := h
        exact next r' w' v' h2 h3 h4
def hp2 (σ σ1 σ2 : Heap) (j1 j2 : Nat) (listed : Array Bool) : Heap := bif listed.getD j2 false then σ2 else bif listed.getD j1 false then σ1 else σ
theorem OpSpec.aop {σ' : Heap} {o : Oper} {C : List Prop} {v : AV} (h : aOp cx [] o.dst o.op fr σ = some (C, v, σ')) (hC : AllP C) : OpSpec cx n fr σ o v σ' := fun r a w hi hf => aOp_run hi hf h hC
end
end Go.Ab
end
section
set_option linter.unusedVariables false
set_option linter.unusedSimpArgs false
namespace Go.Ab
open Go
section
variable {cx : Cx} {n : Nat} {B : Bs} {k : List AI} {Q : Post} {fr : Fr} {σ : Heap}
theorem OpSpec.loadE {o : Oper} {t : TypeId} {a : Operand} {m id ver off : Nat} {cs : List AV} {g : Tag} {x : AV} (ho : o.op = .load t a) (ha : aggT cx.P t = some false) (hm : szOf cx.P t = some m) (hea : ev cx fr a = .eptr id ver off)
    (hσ : σ[id]? = some (ver, some (.cells cs g))) (hx : (cs.drop off)[0]? = some x) : OpSpec cx n fr σ o x σ := by
  intro r ac w hi hf
  refine loadA_run (C := [ver = ver, (cs.drop off)[0]? = some x]) hi hf ?_ ⟨rfl, hx, trivial⟩
  rw [ho]
  simp only [loadA, ha, hm, hea, boxAt, hσ, loadA.loadC]
theorem firstDead_no : ∀ (σ : Heap) (k : Nat), (∀ e ∈ σ, ∃ x, e.2 = some x) → firstDead σ k = none
  | [], _, _ => rfl
  | (v, y) :: r, k, h => by
    obtain ⟨x, hx⟩ := h (v, y) (List.mem_cons_self ..)
    have hx : y = some x := hx
    subst hx
    exact firstDead_no r (k + 1) (fun e he => h e (List.mem_cons_of_mem _ he))
theorem OpSpec.makeE {o : Oper} {t : TypeId} {l c : Operand} {e by_ m : Nat} {z : AV} (ho : o.op = .makeSlice t l c) (hel : elemInfo cx.P t = some (e, 1, by_)) (hz : zeroA cx.P e = some [z]) (hzo : z.one = true) (hl : ev cx fr l = .int .i64 (m : Nat)) (hc : ev cx fr c = .int .i64 (m : Nat)) (ht : tyU8 cx.P e = none)
    (hσ : ∀ e ∈ σ, ∃ x, e.2 = some x) (hb : by_ * m ≤ 281474976710656) (hm : m ≤ 9223372036854775807) : OpSpec cx n fr σ o (.ms σ.length 0 0 m 1 false) (σ ++ [(0, some (.cells (repA m [z]) ⟨false, none⟩))]) := by
  have hb2 : (by_ : Int) * (m : Int) ≤ 281474976710656 := by rw [← Int.natCast_mul]; omega
  refine OpSpec.aop (C := [(0 : Int) ≤ (m : Nat), (m : Int) ≤ (m : Nat), (by_ : Int) * (m : Int) ≤ 281474976710656, (m : Int) ≤ 9223372036854775807]) ?_ ⟨by omega, by omega, hb2, by omega, trivial⟩
  rw [ho]
  show aMake cx.P t (ev cx fr l) (ev cx fr c) σ = _
  rw [hl, hc]
  unfold aMake
  rw [hel]
  simp only [hz, allOne, List.all_cons, List.all_nil, hzo, Bool.and_true, Bool.true_and, Nat.ble_eq_true_of_le (Nat.le_refl 1), cond_true, Int.toNat_natCast, ht]
  unfold allocH
  rw [firstDead_no σ 0 hσ]
end
end Go.Ab
end
section
set_option linter.unusedVariables false
set_option linter.unusedSimpArgs false
namespace Go.Ab
open Go
theorem Inv.del {cx : Cx} {r : Rl} {σ : Heap} {w : World} {id ver b o n i sz : Nat} {cs : List AV} {ty : Option TypeId} {zs : List Value} (hi : Inv cx r σ w) (hσ : σ[id]? = some (ver, some (.cells cs ⟨false, ty⟩))) (hρ : r.ρ id ver = some (b, o)) (hcs : cs.length = n * sz) (hin : i < n) (hz : zs.length = sz) (hne : cs ≠ []) :
    ∃ vals : List Value, vals.length = n * sz ∧ (∀ k, k < vals.length → w.cell? ⟨b, o + k, none⟩ = vals[k]?) ∧ (∀ k, k < vals.length → w.frozen? ⟨b, o + k, none⟩ = false) ∧ (∀ v ∈ vals, v.oneCell' = true) ∧
      ∀ w2, w2 = (w.drew.setCells b (o + i * sz) (vals.drop ((i + 1) * sz))).setCells b (o + (n - 1) * sz) zs →
        ∃ r', Inv cx r' (σ.set id (ver, some (.cells (cs.take (i * sz) ++ cs.drop ((i + 1) * sz)) ⟨false, ty⟩))) w2 ∧ Ext r σ w r' (σ.set id (ver, some (.cells (cs.take (i * sz) ++ cs.drop ((i + 1) * sz)) ⟨false, ty⟩))) w2 ∧ r'.ρ id ver = some (b, o) ∧
          ∀ c t f, w.heap[b]? = some (.cells c t f) → ∃ c' f', w2.heap[b]? = some (.cells c' t f') ∧ c'.size = c.size := by
  have hbx : boxAt σ id = some (ver, cs, ⟨false, ty⟩) := by simp [boxAt, hσ]
  obtain ⟨c, t, lo, hi', q1, q2, q3, q4, q5⟩ := hi.cells hbx rfl hρ
  have hid : id < σ.length := by
    rcases Nat.lt_or_ge id σ.length with h | h
    · exact h
    · rw [List.getElem?_eq_none h] at hσ; cases hσ
  have hlast : o + cs.length ≤ c.size := by
    have hl : 0 < cs.length := List.length_pos_iff.2 hne
    obtain ⟨v, h1, _⟩ := q2 (cs.length - 1) (by omega)
    have := (Array.getElem?_eq_some_iff.1 h1).1
    omega
  have hfit : i * sz + (n - (i + 1)) * sz + sz = n * sz := by
    rw [← Nat.add_mul, show i + (n - (i + 1)) = n - 1 by omega]
    have : (n - 1 + 1) * sz = n * sz := by rw [show n - 1 + 1 = n by omega]
    rw [← this, Nat.add_mul, Nat.one_mul]
  have hn1 : (n - 1) * sz + sz = n * sz := by
    have : (n - 1 + 1) * sz = n * sz := by rw [show n - 1 + 1 = n by omega]
    rw [← this, Nat.add_mul, Nat.one_mul]
  have hi1 : (i + 1) * sz = i * sz + sz := by rw [Nat.add_mul, Nat.one_mul]
  refine ⟨(c.toList.drop o).take (n * sz), ?_, ?_, ?_, ?_, ?_⟩
  · rw [List.length_take, List.length_drop, Array.length_toList]; omega
  · intro k hk
    rw [List.length_take, List.length_drop, Array.length_toList] at hk
    have hlt : o + k < c.size := by omega
    simp only [World.cell?, q1]
    rw [List.getElem?_take_of_lt (by omega), List.getElem?_drop, Array.getElem?_toList]
    try rfl
  · intro k hk
    rw [List.length_take, List.length_drop, Array.length_toList] at hk
    have hlt : o + k < c.size := by omega
    simp only [World.frozen?, q1]
    by_cases hf : lo ≤ o + k ∧ o + k < hi'
    · have := (q4 _ hf.1 hf.2 hlt).1; cases this
    · simp only [Bool.and_eq_false_iff, decide_eq_false_iff_not]
      by_cases h1 : lo ≤ o + k
      · right; intro h2; exact hf ⟨h1, h2⟩
      · left; exact h1
  · intro v hv
    obtain ⟨k, hk, rfl⟩ := List.getElem_of_mem hv
    have hk0 := hk
    rw [List.length_take, List.length_drop, Array.length_toList] at hk
    obtain ⟨u, h1, h2⟩ := q2 k (by omega)
    rw [List.getElem_take, List.getElem_drop, Array.getElem_toList]
    rw [Array.getElem?_eq_getElem (by omega)] at h1
    simp only [Option.some.injEq] at h1
    rw [h1]
    exact h2.one (q3 _ (List.getElem_mem _))
  · intro w2 hw2
    generalize hvals : (c.toList.drop o).take (n * sz) = vals at hw2
    have hvl : vals.length = n * sz := by rw [← hvals, List.length_take, List.length_drop, Array.length_toList]; omega
    have hvg : ∀ k, k < n * sz → vals[k]? = c[o + k]? := fun k hk => by
      rw [← hvals, List.getElem?_take_of_lt hk, List.getElem?_drop, Array.getElem?_toList]
    have hnl : (vals.drop ((i + 1) * sz)).length = (n - (i + 1)) * sz := by rw [List.length_drop, hvl]; omega
    have hq1 : w.drew.heap[b]? = some (.cells c t (lo, hi')) := q1
    obtain ⟨c1, h1, h2, h3, h4, h5, h6, h7, h8⟩ := setCells_heap b (vals.drop ((i + 1) * sz)) (o + i * sz) w.drew c t (lo, hi') hq1 (by rw [hnl]; omega)
    obtain ⟨c2, k1, k2, k3, k4, k5, k6, k7, k8⟩ := setCells_heap b zs (o + (n - 1) * sz) (w.drew.setCells b (o + i * sz) (vals.drop ((i + 1) * sz))) c1 t (lo, hi') h1 (by rw [hz, h2]; omega)
    rw [← hw2] at k1 k4 k5 k6 k7 k8
    have hlen : (cs.take (i * sz) ++ cs.drop ((i + 1) * sz)).length = (n - 1) * sz := by rw [List.length_append, List.length_take, List.length_drop]; omega
    have hu := hi.update (σ' := σ.set id (ver, some (.cells (cs.take (i * sz) ++ cs.drop ((i + 1) * sz)) ⟨false, ty⟩))) (id := id) (ver := ver) (b := b) (o := o) (x := .cells (cs.take (i * sz) ++ cs.drop ((i + 1) * sz)) ⟨false, ty⟩)
      (w' := w2) (by simp [hid]) (fun j hj => by rw [List.getElem?_set, if_neg (Ne.symm hj)])
      (fun c2 y hy => by rw [hσ] at hy; simp only [Option.some.injEq, Prod.mk.injEq] at hy; exact .inr ⟨hy.1.symm, hρ⟩) (.inr ⟨ver, _, o, hσ, hρ⟩) (fun k hk hkb => (k4 k hkb).trans (h4 k hkb)) (by rw [k5, h5]; exact Nat.le_refl _)
      (fun c3 t2 f2 hc2 => by rw [q1] at hc2; simp only [Option.some.injEq, Obj.cells.injEq] at hc2; obtain ⟨rfl, rfl, rfl⟩ := hc2; exact ⟨c2, _, k1, k2.trans h2⟩) (k6.trans h6) (k7.trans h7) (k8.trans h8)
      (fun g => by
        refine ⟨c2, t, lo, hi', k1, fun k hk => ?_, fun y hy => ?_, fun k a1 a2 a3 => ?_, q5⟩
        · have hk0 := hk
          rw [hlen] at hk
          have hc2 : c2[o + k]? = if i * sz ≤ k then vals[k + sz]? else c[o + k]? := by
            rw [k3, if_neg (by omega), h3]
            by_cases hik : i * sz ≤ k
            · rw [if_pos (by rw [hnl]; omega), if_pos hik, List.getElem?_drop]
              congr 1; omega
            · rw [if_neg (by omega), if_neg hik]
          by_cases hik : i * sz ≤ k
          · rw [if_pos hik, hvg (k + sz) (by omega)] at hc2
            obtain ⟨u, e1, e2⟩ := q2 (k + sz) (by omega)
            refine ⟨u, by rw [hc2, e1], ?_⟩
            have : (cs.take (i * sz) ++ cs.drop ((i + 1) * sz))[k] = cs[k + sz]'(by omega) := by
              rw [List.getElem_append_right (by rw [List.length_take]; omega), List.getElem_drop]
              congr 1
              rw [List.length_take]; omega
            rw [this]
            exact e2.mono g
          · rw [if_neg hik] at hc2
            obtain ⟨u, e1, e2⟩ := q2 k (by omega)
            refine ⟨u, by rw [hc2, e1], ?_⟩
            have : (cs.take (i * sz) ++ cs.drop ((i + 1) * sz))[k] = cs[k]'(by omega) := by
              rw [List.getElem_append_left (by rw [List.length_take]; omega), List.getElem_take]
            rw [this]
            exact e2.mono g
        · rcases List.mem_append.1 hy with h | h
          · exact q3 y (List.mem_of_mem_take h)
          · exact q3 y (List.mem_of_mem_drop h)
        · have hlt : k < c.size := by rw [k2, h2] at a3; exact a3
          have := (q4 k a1 a2 hlt).1
          cases this)
    refine ⟨_, hu.1, hu.2, by simp [Rl.bind], fun c3 t3 f3 h3 => ?_⟩
    rw [q1] at h3
    cases h3
    exact ⟨c2, _, k1, k2.trans h2⟩
end Go.Ab
end
section
set_option linter.unusedVariables false
set_option linter.unusedSimpArgs false
set_option maxRecDepth 20000
namespace Go.Proofs.Ytjaflkgfipaajaa
open Go Go.Ab
theorem DeleteT_ok (σ : Heap) (id ver n i : Nat) (cs : List AV) (full : Bool) (ty : Option TypeId) (hσ : σ[id]? = some (ver, some (.cells cs ⟨false, ty⟩))) (hcs : cs.length = n * 1) (hi : i < n) (hn : n ≤ 1000000000) :
    CallOk cx 36 [.ms id ver 0 n 1 full, .int .i64 (i : Nat), .int .i64 (i + 1 : Nat)] σ (fun e s => e = .ret (.ms id ver 0 (n - 1) 1 false) ∧ s = σ.set id (ver, some (.cells (cs.take (i * 1) ++ cs.drop ((i + 1) * 1)) ⟨false, ty⟩))) := by
  refine ⟨fun a w => Try.call36 a w, fun r w vs hv hvs => ?_⟩
  obtain ⟨hs, hvs⟩ := hvs
  have g0 := hvs 0 (by simp)
  have g1 := hvs 1 (by simp)
  have g2 := hvs 2 (by simp)
  have hvs : vs = #[vs.getD 0 undef, vs.getD 1 undef, vs.getD 2 undef] := by
    have hs : vs.size = 3 := hs
    refine Array.ext (by simp [hs]) fun j h1 h2 => ?_
    match j, h1 with
    | 0, h1 => simp [Array.getD, h1]
    | 1, h1 => simp [Array.getD, h1]
    | 2, h1 => simp [Array.getD, h1]
    | j + 3, h1 => omega
  rw [hvs]
  generalize vs.getD 0 undef = a at g0
  generalize vs.getD 1 undef = c at g1
  generalize vs.getD 2 undef = d at g2
  have g0 : VRel r w a (.ms id ver 0 n 1 full) := g0
  have g1 : VRel r w c (.int .i64 (i : Nat)) := g1
  have g2 : VRel r w d (.int .i64 (i + 1 : Nat)) := g2
  cases g1
  cases g2
  cases g0 with
  | ms0 => omega
  | ms hρ hcap hle hff =>
    rename_i b o cap
    have hne : cs ≠ [] := fun e => by rw [e] at hcs; simp at hcs; omega
    obtain ⟨vals, v1, v2, v3, v4, v5⟩ := hv.del (i := i) (zs := (Value.pointer none).cells.toList) hσ hρ hcs hi rfl hne
    refine (delT_walk b o n cap i vals w v1 v2 v3 v4 hi hle (by omega)).mono ?_
    rintro e w' ⟨rfl, hw⟩
    obtain ⟨r', p1, p2, p3, p4⟩ := v5 w' hw
    refine ⟨_, _, r', ⟨rfl, rfl⟩, ?_, p1, p2⟩
    obtain ⟨c, t, f, q1, q2⟩ := hcap
    obtain ⟨c', f', q3, q4⟩ := p4 c t f q1
    exact VRel.ms (o := o) (off := 0) p3 ⟨c', t, f', q3, by rw [q4]; exact q2⟩ (by omega) (fun h => by cases h)
theorem DeleteJ_ok (σ : Heap) (id ver n i : Nat) (cs : List AV) (full : Bool) (ty : Option TypeId) (hσ : σ[id]? = some (ver, some (.cells cs ⟨false, ty⟩))) (hcs : cs.length = n * 3) (hi : i < n) (hn : n ≤ 1000000000) :
    CallOk cx 35 [.ms id ver 0 n 3 full, .int .i64 (i : Nat), .int .i64 (i + 1 : Nat)] σ (fun e s => e = .ret (.ms id ver 0 (n - 1) 3 false) ∧ s = σ.set id (ver, some (.cells (cs.take (i * 3) ++ cs.drop ((i + 1) * 3)) ⟨false, ty⟩))) := by
  refine ⟨fun a w => Try.call35 a w, fun r w vs hv hvs => ?_⟩
  obtain ⟨hs, hvs⟩ := hvs
  have g0 := hvs 0 (by simp)
  have g1 := hvs 1 (by simp)
  have g2 := hvs 2 (by simp)
  have hvs : vs = #[vs.getD 0 undef, vs.getD 1 undef, vs.getD 2 undef] := by
    have hs : vs.size = 3 := hs
    refine Array.ext (by simp [hs]) fun j h1 h2 => ?_
    match j, h1 with
    | 0, h1 => simp [Array.getD, h1]
    | 1, h1 => simp [Array.getD, h1]
    | 2, h1 => simp [Array.getD, h1]
    | j + 3, h1 => omega
  rw [hvs]
  generalize vs.getD 0 undef = a at g0
  generalize vs.getD 1 undef = c at g1
  generalize vs.getD 2 undef = d at g2
  have g0 : VRel r w a (.ms id ver 0 n 3 full) := g0
  have g1 : VRel r w c (.int .i64 (i : Nat)) := g1
  have g2 : VRel r w d (.int .i64 (i + 1 : Nat)) := g2
  cases g1
  cases g2
  cases g0 with
  | ms0 => omega
  | ms hρ hcap hle hff =>
    rename_i b o cap
    have hne : cs ≠ [] := fun e => by rw [e] at hcs; simp at hcs; omega
    obtain ⟨vals, v1, v2, v3, v4, v5⟩ := hv.del (i := i) (zs := (Value.agg #[.int .i64 0, .string ⟨#[]⟩, .int .i64 0]).cells.toList) hσ hρ hcs hi rfl hne
    refine (delJ_walk b o n cap i vals w v1 v2 v3 v4 hi hle (by omega)).mono ?_
    rintro e w' ⟨rfl, hw⟩
    obtain ⟨r', p1, p2, p3, p4⟩ := v5 w' hw
    refine ⟨_, _, r', ⟨rfl, rfl⟩, ?_, p1, p2⟩
    obtain ⟨c, t, f, q1, q2⟩ := hcap
    obtain ⟨c', f', q3, q4⟩ := p4 c t f q1
    exact VRel.ms (o := o) (off := 0) p3 ⟨c', t, f', q3, by rw [q4]; exact q2⟩ (by omega) (fun h => by cases h)
end Go.Proofs.Ytjaflkgfipaajaa
end
section
set_option linter.unusedVariables false
set_option linter.unusedSimpArgs false
namespace Go.Ab
open Go
section
variable {cx : Cx} {n : Nat} {B : Bs} {k : List AI} {Q : Post} {fr : Fr} {σ : Heap}
def Alive (σ : Heap) : Prop := ∀ e ∈ σ, ∃ x, e.2 = some x
theorem Alive.app {σ : Heap} (h : Alive σ) (v : Nat) (x : Box) : Alive (σ ++ [(v, some x)]) := fun e he => by
  rcases List.mem_append.1 he with he | he
  · exact h e he
  · rw [List.mem_singleton.1 he]; exact ⟨x, rfl⟩
theorem Alive.set {σ : Heap} (h : Alive σ) (i v : Nat) (x : Box) : Alive (σ.set i (v, some x)) := fun e he => by
  rcases List.mem_or_eq_of_mem_set he with he | he
  · exact h e he
  · rw [he]; exact ⟨x, rfl⟩
theorem Alive.set' {σ : Heap} (h : Alive σ) {y : Nat × Option Box} (hy : ∃ x, y.2 = some x) (i : Nat) : Alive (σ.set i y) := fun e he => by
  rcases List.mem_or_eq_of_mem_set he with he | he
  · exact h e he
  · rw [he]; exact hy
theorem Alive.alloc {σ : Heap} (h : Alive σ) (x : Box) : allocH σ x = (σ.length, 0, σ ++ [(0, some x)]) := by unfold allocH; rw [firstDead_no σ 0 h]
theorem OpSpec.loadP {o : Oper} {t : TypeId} {a : Operand} {m id ver off : Nat} {cs : List AV} {g : Tag} {x : AV} (ho : o.op = .load t a) (ha : aggT cx.P t = some false) (hm : szOf cx.P t = some m) (hea : ev cx fr a = .ptr id ver off)
    (hσ : σ[id]? = some (ver, some (.cells cs g))) (hx : (cs.drop off)[0]? = some x) : OpSpec cx n fr σ o x σ := by
  intro r ac w hi hf
  refine loadA_run (C := [ver = ver, (cs.drop off)[0]? = some x]) hi hf ?_ ⟨rfl, hx, trivial⟩
  rw [ho]
  simp only [loadA, ha, hm, hea, boxAt, hσ, loadA.loadC]
theorem OpSpec.loadEA {o : Oper} {t : TypeId} {a : Operand} {m id ver off : Nat} {cs : List AV} {g : Tag} {x : AV} (ho : o.op = .load t a) (ha : aggT cx.P t = some true) (hm : szOf cx.P t = some m) (hea : ev cx fr a = .eptr id ver off)
    (hσ : σ[id]? = some (ver, some (.cells cs g))) (hl : m ≤ (cs.drop off).length) (hx : x = .agg ((cs.drop off).take m)) : OpSpec cx n fr σ o x σ := by
  intro r ac w hi hf
  refine loadA_run (C := [ver = ver, m ≤ (cs.drop off).length, x = .agg ((cs.drop off).take m)]) hi hf ?_ ⟨rfl, hl, hx, trivial⟩
  rw [ho]
  simp only [loadA, ha, hm, hea, boxAt, hσ, loadA.loadC]
theorem OpSpec.loadPA {o : Oper} {t : TypeId} {a : Operand} {m id ver off : Nat} {cs : List AV} {g : Tag} {x : AV} (ho : o.op = .load t a) (ha : aggT cx.P t = some true) (hm : szOf cx.P t = some m) (hea : ev cx fr a = .ptr id ver off)
    (hσ : σ[id]? = some (ver, some (.cells cs g))) (hl : m ≤ (cs.drop off).length) (hx : x = .agg ((cs.drop off).take m)) : OpSpec cx n fr σ o x σ := by
  intro r ac w hi hf
  refine loadA_run (C := [ver = ver, m ≤ (cs.drop off).length, x = .agg ((cs.drop off).take m)]) hi hf ?_ ⟨rfl, hl, hx, trivial⟩
  rw [ho]
  simp only [loadA, ha, hm, hea, boxAt, hσ, loadA.loadC]
theorem OpSpec.loadR {o : Oper} {t : TypeId} {a : Operand} {m : Nat} {st : Bool} {cs : List AV} {x : AV} (ho : o.op = .load t a) (ha : aggT cx.P t = some false) (hm : szOf cx.P t = some m) (hea : ev cx fr a = .rp st cs) (hx : cs[0]? = some x) : OpSpec cx n fr σ o x σ := by
  intro r ac w hi hf
  refine loadA_run (C := [cs[0]? = some x]) hi hf ?_ ⟨hx, trivial⟩
  rw [ho]
  simp only [loadA, ha, hm, hea, loadA.loadC]
theorem OpSpec.storeP {o : Oper} {t : TypeId} {a x : Operand} {m id ver off : Nat} {cs : List AV} {gT : Option TypeId} {y : AV} {σ' : Heap} (ho : o.op = .store t a x) (hm : szOf cx.P t = some m) (hea : ev cx fr a = .ptr id ver off) (hx : ev cx fr x = y) (hyc : y.cells.length = m) (hy : allOne y.cells = true)
    (hσ : σ[id]? = some (ver, some (.cells cs ⟨false, gT⟩))) (hoff : off + m ≤ cs.length) (hσ' : σ' = σ.set id (ver, some (.cells (setRange cs off y.cells) ⟨false, gT⟩))) : OpSpec cx n fr σ o (.tup []) σ' := by
  subst hσ'
  refine OpSpec.store (C := [y.cells.length = m, allOne y.cells = true, ver = ver, off + m ≤ cs.length]) ?_ ⟨hyc, hy, rfl, hoff, trivial⟩
  rw [ho]
  simp only [storeA, hm, hea, hσ, hx]
theorem OpSpec.allocE {o : Oper} {e : TypeId} {z : List AV} {g : Option TypeId} (ho : o.op = .alloc e) (hz : zeroA cx.P e = some z) (h1 : allOne z = true) (hg : tyS cx.P e = g) (hσ : Alive σ) : OpSpec cx n fr σ o (.ptr σ.length 0 0) (σ ++ [(0, some (.cells z ⟨false, g⟩))]) := by
  refine OpSpec.aop (C := []) ?_ trivial
  rw [ho]
  simp only [aOp, hz, h1, cond_true, hg, hσ.alloc]
theorem OpSpec.boxE {o : Oper} {e : TypeId} {x : Operand} {y : AV} {g : Option TypeId} (ho : o.op = .box e x) (hx : ev cx fr x = y) (h1 : allOne y.cells = true) (hg : tyS cx.P e = g) (hσ : Alive σ) : OpSpec cx n fr σ o (.ptr σ.length 0 0) (σ ++ [(0, some (.cells y.cells ⟨false, g⟩))]) := by
  refine OpSpec.aop (C := []) ?_ trivial
  rw [ho]
  simp only [aOp, hx, h1, cond_true, hg, hσ.alloc]
theorem OpSpec.appendX {o : Oper} {s x : Operand} {t u : TypeId} {e sz by_ id ver off len : Nat} {st fl : Bool} {cs : List AV} {y : AV} {σ' : Heap} (ho : o.op = .call { callee := .builtin .append, args := #[s, x], argTypes := #[t, u] }) (hel : elemInfo cx.P t = some (e, sz, by_)) (hnt : notInt cx.P u = true)
    (hs : ev cx fr s = .ms id ver off len sz false) (hx : ev cx fr x = .sl st fl sz [y]) (hy : ∀ z ∈ flatA sz [y], z.one = true) (hσ : σ[id]? = some (ver, some (.cells cs ⟨false, none⟩))) (hl : off + len * sz = cs.length) (hb : (len + 1) * by_ ≤ 140737488355328) (hb2 : len + 1 ≤ 9223372036854775807)
    (hσ' : σ' = σ.set id (ver + 1, some (.cells (cs.drop off ++ flatA sz [y]) ⟨false, none⟩))) : OpSpec cx n fr σ o (.ms id (ver + 1) 0 (len + 1) sz false) σ' := by
  subst hσ'
  refine OpSpec.aop (C := [sz = sz, ∀ z ∈ flatA sz [y], z.one = true] ++ [∀ z ∈ flatA sz [y], z.one = true, ver = ver, sz = sz, off + len * sz = cs.length, (len + [y].length) * by_ ≤ 140737488355328, len + [y].length ≤ 9223372036854775807]) ?_ ⟨rfl, hy, hy, rfl, rfl, hl, hb, hb2, trivial⟩
  rw [ho]
  show aAppend cx.P t u (ev cx fr s) (ev cx fr x) σ = _
  rw [hs, hx]
  unfold aAppend
  rw [hel]
  have ht : tagOn cx.P e off ⟨false, none⟩ = ⟨false, none⟩ := by unfold tagOn; cases off <;> rfl
  simp only [hnt, cond_true, aSrc, hσ, ht, dropA_eq]
  rfl
end
end Go.Ab
end
section
set_option linter.unusedVariables false
set_option linter.unusedSimpArgs false
set_option maxRecDepth 20000
namespace Go.Proofs.Ytjaflkgfipaajaa
open Go Go.Ab
section
variable {cx : Cx} {n : Nat} {B : Bs} {k : List AI} {Q : Post} {fr : Fr} {σ : Heap}
theorem after_goto {l : Nat} : ∀ k : List AI, after cx n B k Q (.goto l) = Q (.goto l)
  | [] => rfl
  | .code c :: k => after_goto k
  | .blk id :: k => after_goto k
  | .ops all l' K :: k => after_goto k
  | .inv M :: k => after_goto k
theorem S_scope {c : Code} (hQ : ∀ l fr σ, ¬ Q (.goto l) fr σ) (h : S cx n B (.code c :: k) Q fr σ) : S cx n B (.code (.scope c) :: k) Q fr σ := by
  intro r a w hi hf hd hx
  refine wp_scope_straight (wp_mono (h r a w hi hf hd hx) fun e a w hq => ?_)
  obtain ⟨ae, fr', σ', r', hq, he, hi', hf', hd', hx'⟩ := hq
  cases e <;> cases ae <;> first | exact he.elim | exact Lift.mk hq he hi' hf' hd' hx' | exact hQ _ _ _ ((congrFun (congrFun (after_goto k) fr') σ').mp hq)
theorem S_ext {all : Array Oper} {o : Oper} {l : List Oper} {K : List Nat} {f : FuncId} {args : List AV} {res : AV}
    (hext : ∀ (r : Rl) (w : World) (vs : Array Value), VRels r w vs args → ∃ v, (callFunc f vs).run cx.P w = .ok (.value v) w ∧ VRel r w v res) (hc : callA cx fr o.op = some (f, args)) (hg : guardA all o K fr = some true)
    (hd : dstOk n o.dst = true) (hk : S cx n B (.ops all l K :: k) Q (setA o.dst res fr) σ) : S cx n B (.ops all (o :: l) K :: k) Q fr σ := by
  refine S_do hg hd (fun r a w hi hf => ?_) hk
  obtain ⟨vs, h1, h2⟩ := callA_go hi hf hc
  obtain ⟨v, h3, h4⟩ := hext r w vs h2
  exact ⟨r, w, v, .inl (by rw [h1, h3]), h4, hi, Ext.refl _ _ _⟩
end
theorem ixb (s : List UInt8) (c : Int) (r : Rl) (w : World) (vs : Array Value) (h : VRels r w vs [.str s, .int .u8 c]) :
    ∃ v, (callFunc 43 vs).run cx.P w = .ok (.value v) w ∧ VRel r w v (.int .i64 (Lib.indexByte s c.toNat.toUInt8)) := by
  obtain ⟨hs, hv⟩ := h
  obtain ⟨x, y, rfl⟩ : ∃ x y, vs = #[x, y] := by
    rcases vs with ⟨l⟩
    match l, hs with
    | [x, y], _ => exact ⟨x, y, rfl⟩
  have h0 := hv 0 (by simp)
  have h1 := hv 1 (by simp)
  simp only [List.getElem_cons_zero, List.getElem_cons_succ] at h0 h1
  have h0 : VRel r w x (.str s) := h0
  have h1 : VRel r w y (.int .u8 c) := h1
  cases h0 with
  | str h =>
    subst h
    cases h1
    refine ⟨_, ?_, .int⟩
    show (callFunc 43 _).run Try.prog w = _
    rw [run_callFunc_extern Try.func43 rfl rfl rfl (e := Extern.BytealgIndexByte.indexByte) rfl, Lib.run_indexByteString]
    rfl
theorem indexByteS_ok (s : List UInt8) (c : Int) : Calc cx 42 [.str s, .int .u8 c] (.int .i64 (Lib.indexByte s c.toNat.toUInt8)) :=
  pure_intro (fun a w => Try.call42 a w) Try.func42 rfl Try.ntmps42 rfl .int fun B => by
    refine ab 1000 rfl trivial ?_
    refine S_ext (ixb s c) rfl rfl rfl ?_
    refine ab 1000 rfl trivial ?_
    exact S_retc .int rfl trivial rfl
theorem indexByte_ok (s : List UInt8) (c : Int) : Calc cx 38 [.str s, .int .u8 c] (.int .i64 (Lib.indexByte s c.toNat.toUInt8)) :=
  pure_intro (fun a w => Try.call38 a w) Try.func38 rfl Try.ntmps38 rfl .int fun B => by
    refine ab 1000 rfl trivial ?_
    refine S_pure rfl rfl rfl (indexByteS_ok s c) (.cons (.refl .str) (.cons (.refl .int) (.nil _))) ?_
    refine ab 1000 rfl trivial ?_
    exact S_retc .int rfl trivial rfl
end Go.Proofs.Ytjaflkgfipaajaa
end
section
set_option linter.unusedVariables false
set_option linter.unusedSimpArgs false
set_option maxRecDepth 20000
namespace Go.Proofs.Ytjaflkgfipaajaa
open Go Go.Ab
theorem validRune_ok (r : Int) : Calc cx 39 [.int .i32 r] (.bool (decide ((0 ≤ r ∧ r < 55296) ∨ (57343 < r ∧ r ≤ 1114111)))) :=
  pure_intro (fun a w => Try.call39 a w) Try.func39 rfl Try.ntmps39 rfl .bool fun B => by
    have yes : ((0 ≤ r ∧ r < 55296) ∨ (57343 < r ∧ r ≤ 1114111)) → AV.bool true = .bool (decide ((0 ≤ r ∧ r < 55296) ∨ (57343 < r ∧ r ≤ 1114111))) := fun h => by rw [decide_eq_true h]
    have no : ¬ ((0 ≤ r ∧ r < 55296) ∨ (57343 < r ∧ r ≤ 1114111)) → AV.bool false = .bool (decide ((0 ≤ r ∧ r < 55296) ∨ (57343 < r ∧ r ≤ 1114111))) := fun h => by rw [decide_eq_false h]
    have second : ∀ (h : ¬ (0 ≤ r ∧ r < 55296)), True := fun _ => trivial
    refine ab 1000 rfl trivial ?_
    refine S_guard rfl rfl rfl rfl (fun h => ?_) (fun h => ?_)
    · have h := of_decide_eq_true h
      refine ab 1000 rfl trivial ?_
      refine S_dec rfl (fun h2 => ?_) (fun h2 => ?_)
      · refine ab 1000 rfl trivial ?_
        exact S_retc .bool rfl trivial (yes (by omega))
      · refine ab 1000 rfl trivial ?_
        refine S_guard rfl rfl rfl rfl (fun h3 => ?_) (fun h3 => ?_)
        · have h3 := of_decide_eq_true h3
          refine ab 1000 rfl trivial ?_
          refine S_dec rfl (fun h4 => ?_) (fun h4 => ?_)
          · refine ab 1000 rfl trivial ?_
            exact S_retc .bool rfl trivial (yes (by omega))
          · refine ab 1000 rfl trivial ?_
            exact S_retc .bool rfl trivial (no (by omega))
        · have h3 := of_decide_eq_false h3
          refine ab 1000 rfl trivial ?_
          refine S_cond rfl (fun h => by cases h) (fun _ => ?_)
          refine ab 1000 rfl trivial ?_
          exact S_retc .bool rfl trivial (no (by omega))
    · have h := of_decide_eq_false h
      refine ab 1000 rfl trivial ?_
      refine S_cond rfl (fun h => by cases h) (fun _ => ?_)
      refine ab 1000 rfl trivial ?_
      refine S_guard rfl rfl rfl rfl (fun h3 => ?_) (fun h3 => ?_)
      · have h3 := of_decide_eq_true h3
        omega
      · refine ab 1000 rfl trivial ?_
        refine S_cond rfl (fun h => by cases h) (fun _ => ?_)
        refine ab 1000 rfl trivial ?_
        exact S_retc .bool rfl trivial (no (by omega))
theorem enc_last {r : Int} (h0 : 128 ≤ r) (h1 : (0 ≤ r ∧ r < 55296) ∨ (57343 < r ∧ r ≤ 1114111)) :
    ∃ l x, (Utf8.encode r).data.toList = l ++ [x] ∧ 1 ≤ l.length ∧ l.length ≤ 3 ∧ 128 ≤ x.toNat := by
  have hv : Utf8.valid r = true := by
    unfold Utf8.valid
    simp
    omega
  unfold Utf8.encode
  simp only [hv, if_true]
  obtain ⟨m, rfl⟩ := Int.eq_ofNat_of_zero_le (by omega : 0 ≤ r)
  have hb : ∀ z : Nat, z < 64 → 128 ≤ (UInt8.ofNat (128 + z)).toNat := fun z hz => by
    rw [UInt8.toNat_ofNat']; omega
  simp only [Int.toNat_natCast]
  rw [if_neg (by omega)]
  split
  · exact ⟨[_], _, rfl, by simp, by simp, hb _ (Nat.mod_lt _ (by decide))⟩
  · split
    · exact ⟨[_, _], _, rfl, by simp, by simp, hb _ (Nat.mod_lt _ (by decide))⟩
    · exact ⟨[_, _, _], _, rfl, by simp, by simp, hb _ (Nat.mod_lt _ (by decide))⟩
def marks : List UInt8 := [95, 45, 46]
theorem no_high {x : UInt8} (h : 128 ≤ x.toNat) : ∀ i, Lib.indexByte (marks.drop i) x = -1 := by
  have n1 : ((95 : UInt8) == x) = false := by rw [beq_eq_false_iff_ne]; rintro rfl; revert h; decide
  have n2 : ((45 : UInt8) == x) = false := by rw [beq_eq_false_iff_ne]; rintro rfl; revert h; decide
  have n3 : ((46 : UInt8) == x) = false := by rw [beq_eq_false_iff_ne]; rintro rfl; revert h; decide
  intro i
  match i with
  | 0 => simp [marks, Lib.indexByte, n1, n2, n3]
  | 1 => simp [marks, Lib.indexByte, n1, n2, n3]
  | 2 => simp [marks, Lib.indexByte, n1, n2, n3]
  | i + 3 => simp [marks, Lib.indexByte]
def markAt (r : Int) : Int := if r = 95 then 0 else if r = 45 then 1 else if r = 46 then 2 else -1
theorem low_mark : ∀ m : Fin 128, Lib.indexByte marks (m.1.toUInt8) = markAt m.1 := by decide +kernel
theorem indexRune_ok (r : Int) : Calc cx 37 [.str marks, .int .i32 r] (.int .i64 (markAt r)) :=
  pure_intro (fun a w => Try.call37 a w) Try.func37 rfl Try.ntmps37 rfl .int fun B => by
    have none : (r < 0 ∨ 128 ≤ r) → AV.int .i64 (-1) = .int .i64 (markAt r) := fun h => by
      rw [markAt, if_neg (by omega), if_neg (by omega), if_neg (by omega)]
    refine ab 1000 rfl trivial ?_
    refine S_split 4 (fun fr σ => Weak fr [(0, .str marks), (1, .int .i32 r), (160, .bool (decide (0 ≤ r ∧ r < 128)))] ∧ σ = []) ?_ ?_
    · refine S_guard rfl rfl rfl rfl (fun h => ?_) (fun h => ?_)
      · have h := of_decide_eq_true h
        refine ab 1000 rfl trivial ?_
        exact S_inv ⟨.cons rfl (.cons rfl (.cons (by show AV.bool (decide (r < 128)) = _; congr 1; simp [h]) (.nil _))), rfl⟩
      · have h := of_decide_eq_false h
        refine ab 1000 rfl trivial ?_
        exact S_inv ⟨.cons rfl (.cons rfl (.cons (by show AV.bool false = _; congr 1; simp [h]) (.nil _))), rfl⟩
    rintro fr σ ⟨hw, rfl⟩
    refine S_opsW hw ?_
    refine ab 1000 rfl trivial ?_
    refine S_dec rfl (fun h => ?_) (fun h => ?_)
    · refine ab 1000 rfl trivial ?_
      refine S_pure rfl rfl rfl (indexByte_ok marks _) (.cons (.refl .str) (.cons (.refl .int) (.nil _))) ?_
      refine ab 1000 rfl trivial ?_
      refine S_retc .int rfl trivial ?_
      show AV.int .i64 (Lib.indexByte marks (IntKind.u8.wrap r).toNat.toUInt8) = _
      obtain ⟨m, rfl⟩ := Int.eq_ofNat_of_zero_le h.1
      rw [wrap_low rfl, Int.toNat_natCast, Nat.mod_eq_of_lt (by show m < 256; omega)]
      exact congrArg _ (low_mark ⟨m, by omega⟩)
    · refine ab 1000 rfl trivial ?_
      refine S_beq rfl (fun h2 => ?_) (fun h2 => ?_)
      · refine ab 1000 rfl trivial ?_
        refine S_while (α := Nat) (fun i => [(0, .str marks), (175, .ptr 0 0 0)]) (fun i => [(0, some (.siter marks i))]) (fun i => i ≤ 3) (fun i => 3 - i) 0
          (Nat.zero_le _) (.cons rfl (.cons rfl (.nil _))) rfl ?_
        rintro i hi
        refine ab 1000 rfl trivial ?_
        refine S_next rfl rfl rfl rfl rfl (fun hil => ?_) (fun hge => ?_)
        · have hi3 : i < 3 := hil
          have hc : (marks[i]).toNat < 128 := (show ∀ j : Fin 3, (marks[j.1]'j.2).toNat < 128 by decide) ⟨i, hi3⟩
          rw [decL_lt hil hc]
          refine ab 1000 rfl trivial ?_
          refine S_cond rfl (fun _ => ?_) (fun h => by cases h)
          refine ab 1000 rfl trivial ?_
          refine S_beq rfl (fun h3 => ?_) (fun h3 => ?_)
          · exact absurd (show (((marks[i]).toNat : Nat) : Int) = 65533 from h3) (by omega)
          · refine ab 1000 rfl trivial ?_
            exact S_round (i + 1) (by show 3 - (i + 1) < 3 - i; omega) (by show i + 1 ≤ 3; omega) (.cons rfl (.cons rfl (.nil _))) rfl
        · refine ab 1000 rfl trivial ?_
          refine S_cond rfl (fun h => by cases h) (fun _ => ?_)
          refine ab 1000 rfl trivial ?_
          exact S_retc .int rfl trivial (none (by omega))
      · refine ab 1000 rfl trivial ?_
        refine S_pure rfl rfl rfl (validRune_ok r) (.cons (.refl .int) (.nil _)) ?_
        refine ab 1000 rfl trivial ?_
        refine S_cond rfl (fun h3 => ?_) (fun h3 => ?_)
        · refine ab 1000 rfl trivial ?_
          exact S_retc .int rfl trivial (none (by omega))
        · have hv : (0 ≤ r ∧ r < 55296) ∨ (57343 < r ∧ r ≤ 1114111) := by
            rcases Decidable.em ((0 ≤ r ∧ r < 55296) ∨ (57343 < r ∧ r ≤ 1114111)) with hp | hp
            · exact hp
            · have h3 : (!decide ((0 ≤ r ∧ r < 55296) ∨ (57343 < r ∧ r ≤ 1114111))) = false := h3
              rw [decide_eq_false hp] at h3
              cases h3
          have h128 : 128 ≤ r := by omega
          obtain ⟨l, x, he, hl1, hl2, hx⟩ := enc_last h128 hv
          refine ab 1000 rfl trivial ?_
          refine S_scope (fun _ _ _ h => h) ?_
          refine ab 1000 rfl trivial ?_
          refine S_while (α := Unit) (fun _ => [(0, .str marks), (7, .str (l ++ [x])), (8, .int .i64 (l.length : Nat)), (9, .int .i64 (l.length : Nat))]) (fun _ => []) (fun _ => True) (fun _ => 0) () trivial
            (.cons rfl (.cons ?_ (.cons ?_ (.cons ?_ (.nil _))))) rfl ?_
          · show AV.str _ = _; rw [he]
          · show AV.int .i64 (IntKind.i64.wrap (((Utf8.encode r).data.toList.length : Nat) - 1 : Int)) = _
            rw [he, List.length_append]; exact congrArg _ (w64 (by simp) (by omega))
          · show AV.int .i64 (IntKind.i64.wrap (((Utf8.encode r).data.toList.length : Nat) - 1 : Int)) = _
            rw [he, List.length_append]; exact congrArg _ (w64 (by simp) (by omega))
          rintro _ _
          refine ab 1000 rfl trivial ?_
          refine S_dec rfl (fun hlt => ?_) (fun hge => ?_)
          · have hlt : (l.length : Int) < 3 := hlt
            refine ab 1000 rfl trivial ?_
            refine S_scope (fun _ _ _ h => h) ?_
            refine ab 1000 rfl trivial ?_
            refine S_draw 7 [] [] rfl rfl rfl rfl ?_ ?_
            · exact ⟨rfl, rfl, rfl, by omega, hlt, rfl, rfl, rfl, by omega, by simp; omega, rfl, trivial⟩
            refine ab 1000 rfl trivial ?_
            refine S_bne rfl (fun h4 => ?_) (fun h4 => ?_)
            · refine ab 1000 rfl trivial ?_
              refine S_draw 8 [] [.int .i64 (-1)] rfl rfl rfl rfl ?_ ?_
              · have hcalc : ∀ (s' : List UInt8) (c : Int), s' = marks.drop (l.length + 1) → c = (x.toNat : Nat) → Calc cx 38 [.str s', .int .u8 c] (.int .i64 (-1)) := by
                  rintro s' c rfl rfl
                  have h5 := indexByte_ok (marks.drop (l.length + 1)) (x.toNat : Nat)
                  rwa [Int.toNat_natCast, show x.toNat.toUInt8 = x from UInt8.ofNat_toNat, no_high hx] at h5
                have hw1 : IntKind.i64.wrap ((l.length : Int) + 1) = ((l.length + 1 : Nat) : Int) := w64 rfl (by omega)
                refine ⟨rfl, rfl, rfl, rfl, ?_, ?_, rfl, rfl, rfl, by omega, by simp; omega, ⟨_, hcalc _ _ ?_ ?_, .cons (.refl .str) (.cons (.refl .int) (.nil _))⟩, trivial⟩
                · rw [hw1]; omega
                · rw [hw1]; show ((l.length + 1 : Nat) : Int) ≤ 3; omega
                · rw [hw1]; simp [cutL]
                · rw [Int.toNat_natCast]; simp
              refine ab 1000 rfl trivial ?_
              refine S_cond rfl (fun h => ?_) (fun h => by cases h)
              refine ab 1000 rfl trivial ?_
              exact S_retc .int rfl trivial (none (by omega))
            · exfalso
              have hm : ∀ i, (marks.getD i 0).toNat < 128 := by
                intro i
                match i with
                | 0 => decide
                | 1 => decide
                | 2 => decide
                | i + 3 => simp [marks]
              have h5 := hm ((l.length : Int)).toNat
              rw [Int.toNat_natCast] at h4 h5
              rw [show ((l ++ [x]).getD l.length 0) = x by simp] at h4
              omega
          · refine ab 1000 rfl trivial ?_
            exact S_retc .int rfl trivial (none (by omega))
theorem containsRune_ok (r : Int) : Calc cx 30 [.str marks, .int .i32 r] (.bool (decide (0 ≤ markAt r))) :=
  pure_intro (fun a w => Try.call30 a w) Try.func30 rfl Try.ntmps30 rfl .bool fun B => by
    refine ab 1000 rfl trivial ?_
    refine S_pure rfl rfl rfl (indexRune_ok r) (.cons (.refl .str) (.cons (.refl .int) (.nil _))) ?_
    refine ab 1000 rfl trivial ?_
    exact S_retc .bool rfl trivial rfl
end Go.Proofs.Ytjaflkgfipaajaa
end
section
set_option linter.unusedVariables false
set_option linter.unusedSimpArgs false
set_option maxRecDepth 20000
namespace Go.Proofs.Ytjaflkgfipaajaa
open Go Go.Ab
abbrev Nm := List UInt8
structure QJ where
  ten : Int
  name : Nm
  cost : Int
deriving DecidableEq
def QJ.cells (j : QJ) : List AV := [.int .i64 j.ten, .str j.name, .int .i64 j.cost]
def jobA (j : QJ) : AV := .agg j.cells
structure QT where
  num : Int
  cred : Int
  turn : Bool
  jobs : List QJ
def jbC (l : List QJ) : List AV := l.flatMap QJ.cells
theorem jbC_len (l : List QJ) : (jbC l).length = l.length * 3 := by
  induction l with
  | nil => rfl
  | cons x r ih => unfold jbC at *; rw [List.flatMap_cons, List.length_append, ih, List.length_cons, Nat.add_mul]; simp only [QJ.cells, List.length_cons, List.length_nil]; omega
theorem jbC_app (a b : List QJ) : jbC (a ++ b) = jbC a ++ jbC b := List.flatMap_append
theorem jbC_drop (l : List QJ) {i : Nat} (h : i ≤ l.length) : (jbC l).drop (i * 3) = jbC (l.drop i) := by
  conv => lhs; rw [← List.take_append_drop i l, jbC_app]
  exact List.drop_left' (by rw [jbC_len, List.length_take, Nat.min_eq_left h])
theorem jbC_take (l : List QJ) {i : Nat} (h : i ≤ l.length) : (jbC l).take (i * 3) = jbC (l.take i) := by
  conv => lhs; rw [← List.take_append_drop i l, jbC_app]
  exact List.take_left' (by rw [jbC_len, List.length_take, Nat.min_eq_left h])
theorem jbC_one (l : List QJ) : ∀ x ∈ jbC l, x.one = true := fun x hx => by
  obtain ⟨j, _, hx⟩ := List.mem_flatMap.1 hx
  simp only [QJ.cells, List.mem_cons, List.not_mem_nil, or_false] at hx
  rcases hx with rfl | rfl | rfl <;> rfl
theorem jbC_at {l : List QJ} {k : Nat} (h : k < l.length) : ((jbC l).drop (offN 0 (mulN ((k : Int)).toNat 3))).take 3 = (l[k]).cells ∧ 3 ≤ ((jbC l).drop (offN 0 (mulN ((k : Int)).toNat 3))).length := by
  rw [offN_eq, mulN_eq, Int.toNat_natCast, Nat.zero_add, jbC_drop l (by omega), List.drop_eq_getElem_cons h]
  refine ⟨?_, ?_⟩
  · show (l[k].cells ++ jbC (l.drop (k + 1))).take 3 = _
    exact List.take_left' rfl
  · rw [jbC_len, List.length_cons]; omega
def manyQ : List QT → Nat
  | [] => 0
  | t :: r => t.jobs.length + manyQ r
structure QL where
  tid : Nat
  jid : Nat
  jv : Nat
def tnB (t : QT) (e : QL) : Box := .cells [.int .i64 t.num, .int .i64 t.cred, .bool t.turn, .ms e.jid e.jv 0 t.jobs.length 3 false] ⟨false, some 63⟩
def rgC (es : List QL) : List AV := es.map fun e => .ptr e.tid 0 0
def QL.ids (e : QL) : Nat × Nat := (e.tid, e.jid)
def Four (a b : Nat × Nat) : Prop := a.1 ≠ b.1 ∧ a.2 ≠ b.2 ∧ a.1 ≠ b.2 ∧ a.2 ≠ b.1
structure Ap (q rid : Nat) (ps : List (Nat × Nat)) : Prop where
  qr : q ≠ rid
  at_ : ∀ p ∈ ps, p.1 ≠ q ∧ p.2 ≠ q ∧ p.1 ≠ rid ∧ p.2 ≠ rid ∧ p.1 ≠ p.2
  pw : ps.Pairwise Four
def Own (q rid : Nat) (es : List QL) (id : Nat) : Prop := id = q ∨ id = rid ∨ ∃ e ∈ es, id = e.tid ∨ id = e.jid
def quB (quan : Int) (rid rv : Nat) (ring : List QT) : Box := .cells [.int .i64 quan, .ms rid rv 0 ring.length 1 false, .int .i64 (manyQ ring : Nat)] ⟨false, some 56⟩
inductive TnAt (σ : Heap) : List QL → List QT → Prop
  | nil : TnAt σ [] []
  | cons {e es t ts} (h1 : σ[e.tid]? = some (0, some (tnB t e))) (h2 : σ[e.jid]? = some (e.jv, some (.cells (jbC t.jobs) ⟨false, none⟩))) (h : TnAt σ es ts) : TnAt σ (e :: es) (t :: ts)
structure QAt (σ : Heap) (q rid rv : Nat) (es : List QL) (quan : Int) (ring : List QT) : Prop where
  al : Alive σ
  qb : σ[q]? = some (0, some (quB quan rid rv ring))
  rb : σ[rid]? = some (rv, some (.cells (rgC es) ⟨false, none⟩))
  tn : TnAt σ es ring
  ap : Ap q rid (es.map QL.ids)
theorem TnAt.len {σ : Heap} {es : List QL} {ts : List QT} (h : TnAt σ es ts) : es.length = ts.length := by
  induction h with
  | nil => rfl
  | cons _ _ _ ih => rw [List.length_cons, List.length_cons, ih]
theorem TnAt.get {σ : Heap} {es : List QL} {ts : List QT} (h : TnAt σ es ts) : ∀ i (h1 : i < es.length) (h2 : i < ts.length), σ[es[i].tid]? = some (0, some (tnB ts[i] es[i])) ∧ σ[es[i].jid]? = some (es[i].jv, some (.cells (jbC ts[i].jobs) ⟨false, none⟩)) := by
  induction h with
  | nil => intro i h1; cases h1
  | cons h1 h2 h ih =>
    intro i k1 k2
    cases i with
    | zero => exact ⟨h1, h2⟩
    | succ i => exact ih i (Nat.lt_of_succ_lt_succ k1) (Nat.lt_of_succ_lt_succ k2)
theorem TnAt.keep {σ σ' : Heap} {es : List QL} {ts : List QT} (h : TnAt σ es ts) (hk : ∀ e ∈ es, σ'[e.tid]? = σ[e.tid]? ∧ σ'[e.jid]? = σ[e.jid]?) : TnAt σ' es ts := by
  induction h with
  | nil => exact .nil
  | cons h1 h2 h ih =>
    obtain ⟨k1, k2⟩ := hk _ (List.mem_cons_self ..)
    exact .cons (k1.trans h1) (k2.trans h2) (ih fun e he => hk e (List.mem_cons_of_mem _ he))
theorem TnAt.snoc {σ : Heap} {es : List QL} {ts : List QT} {e : QL} {t : QT} (h : TnAt σ es ts) (h1 : σ[e.tid]? = some (0, some (tnB t e))) (h2 : σ[e.jid]? = some (e.jv, some (.cells (jbC t.jobs) ⟨false, none⟩))) : TnAt σ (es ++ [e]) (ts ++ [t]) := by
  induction h with
  | nil => exact .cons h1 h2 .nil
  | cons k1 k2 _ ih => exact .cons k1 k2 ih
theorem TnAt.erase {σ : Heap} {es : List QL} {ts : List QT} (h : TnAt σ es ts) : ∀ i, TnAt σ (es.eraseIdx i) (ts.eraseIdx i) := by
  induction h with
  | nil => intro i; rw [List.eraseIdx_nil, List.eraseIdx_nil]; exact .nil
  | cons h1 h2 h ih =>
    intro i
    cases i with
    | zero => exact h
    | succ i => exact .cons h1 h2 (ih i)
theorem TnAt.put {σ σ' : Heap} {es : List QL} {ts : List QT} (h : TnAt σ es ts) : ∀ i (h1 : i < es.length) (e' : QL) (t' : QT), σ'[e'.tid]? = some (0, some (tnB t' e')) → σ'[e'.jid]? = some (e'.jv, some (.cells (jbC t'.jobs) ⟨false, none⟩)) →
    (∀ j (hj : j < es.length), j ≠ i → σ'[es[j].tid]? = σ[es[j].tid]? ∧ σ'[es[j].jid]? = σ[es[j].jid]?) → TnAt σ' (es.set i e') (ts.set i t') := by
  induction h with
  | nil => intro i h1; cases h1
  | cons k1 k2 h ih =>
    intro i h1 e' t' g1 g2 hk
    cases i with
    | zero =>
      refine .cons g1 g2 (h.keep fun e he => ?_)
      obtain ⟨j, hj, rfl⟩ := List.getElem_of_mem he
      exact hk (j + 1) (Nat.succ_lt_succ hj) (by omega)
    | succ i =>
      obtain ⟨a1, a2⟩ := hk 0 (Nat.zero_lt_succ _) (by omega)
      exact .cons (a1.trans k1) (a2.trans k2) (ih i (Nat.lt_of_succ_lt_succ h1) e' t' g1 g2 fun j hj hne => hk (j + 1) (Nat.succ_lt_succ hj) (by omega))
theorem Four.symm {a b : Nat × Nat} (h : Four a b) : Four b a := ⟨h.1.symm, h.2.1.symm, h.2.2.2.symm, h.2.2.1.symm⟩
theorem Ap.two {q rid : Nat} {es : List QL} (h : Ap q rid (es.map QL.ids)) {i j : Nat} (hi : i < es.length) (hj : j < es.length) (hne : i ≠ j) : Four es[i].ids es[j].ids := by
  have hp := List.pairwise_iff_getElem.1 h.pw
  rcases Nat.lt_or_gt_of_ne hne with hlt | hlt
  · have := hp i j (by simpa using hi) (by simpa using hj) hlt
    simpa using this
  · have := hp j i (by simpa using hj) (by simpa using hi) hlt
    exact Four.symm (by simpa using this)
theorem Ap.one {q rid : Nat} {es : List QL} (h : Ap q rid (es.map QL.ids)) {i : Nat} (hi : i < es.length) : es[i].tid ≠ q ∧ es[i].jid ≠ q ∧ es[i].tid ≠ rid ∧ es[i].jid ≠ rid ∧ es[i].tid ≠ es[i].jid :=
  h.at_ es[i].ids (List.mem_map_of_mem (List.getElem_mem hi))
theorem Ap.set {q rid : Nat} {es : List QL} (h : Ap q rid (es.map QL.ids)) {i : Nat} (hi : i < es.length) {e : QL} (he : e.ids = es[i].ids) : Ap q rid ((es.set i e).map QL.ids) := by
  have : (es.set i e).map QL.ids = es.map QL.ids := by
    rw [List.map_set, he]
    apply List.ext_getElem (by simp)
    intro j h1 h2
    rw [List.getElem_set]
    split
    · rename_i hij; subst hij; simp
    · rfl
  rw [this]; exact h
theorem Ap.erase {q rid : Nat} {es : List QL} (h : Ap q rid (es.map QL.ids)) (i : Nat) : Ap q rid ((es.eraseIdx i).map QL.ids) := by
  have hs : ((es.eraseIdx i).map QL.ids).Sublist (es.map QL.ids) := (List.eraseIdx_sublist ..).map _
  exact ⟨h.qr, fun p hp => h.at_ p (hs.subset hp), h.pw.sublist hs⟩
theorem Ap.snoc {q rid : Nat} {es : List QL} (h : Ap q rid (es.map QL.ids)) {e : QL} {m : Nat} (hq : q < m) (hr : rid < m) (hm : ∀ x ∈ es, x.tid < m ∧ x.jid < m) (h1 : m ≤ e.tid) (h2 : m ≤ e.jid) (h3 : e.tid ≠ e.jid) : Ap q rid ((es ++ [e]).map QL.ids) := by
  rw [List.map_append]
  refine ⟨h.qr, fun p hp => ?_, List.pairwise_append.2 ⟨h.pw, List.pairwise_singleton .., fun a ha b hb => ?_⟩⟩
  · rcases List.mem_append.1 hp with hp | hp
    · exact h.at_ p hp
    · have : p = e.ids := by simpa using hp
      subst this
      exact ⟨by show e.tid ≠ q; omega, by show e.jid ≠ q; omega, by show e.tid ≠ rid; omega, by show e.jid ≠ rid; omega, h3⟩
  · obtain ⟨x, hx, rfl⟩ := List.mem_map.1 ha
    have : b = e.ids := by simpa using hb
    subst this
    obtain ⟨k1, k2⟩ := hm x hx
    exact ⟨by show x.tid ≠ e.tid; omega, by show x.jid ≠ e.jid; omega, by show x.tid ≠ e.jid; omega, by show x.jid ≠ e.tid; omega⟩
theorem Ap.rot {q rid : Nat} {e : QL} {es : List QL} (h : Ap q rid ((e :: es).map QL.ids)) : Ap q rid ((es ++ [e]).map QL.ids) := by
  rw [List.map_append]
  rw [List.map_cons] at h
  obtain ⟨p1, p2⟩ := List.pairwise_cons.1 h.pw
  refine ⟨h.qr, fun p hp => h.at_ p ?_, List.pairwise_append.2 ⟨p2, List.pairwise_singleton .., fun a ha b hb => ?_⟩⟩
  · rcases List.mem_append.1 hp with hp | hp
    · exact List.mem_cons_of_mem _ hp
    · have : p = e.ids := by simpa using hp
      rw [this]; exact List.mem_cons_self ..
  · have : b = e.ids := by simpa using hb
    subst this
    exact (p1 a ha).symm
theorem set_ne {σ : Heap} {i j : Nat} {x : Nat × Option Box} (h : i ≠ j) : (σ.set j x)[i]? = σ[i]? := by rw [List.getElem?_set, if_neg (Ne.symm h)]
theorem set_eq {σ : Heap} {j : Nat} {x y : Nat × Option Box} (h : σ[j]? = some y) : (σ.set j x)[j]? = some x := by
  have hi : j < σ.length := by
    rcases Nat.lt_or_ge j σ.length with h' | h'
    · exact h'
    · rw [List.getElem?_eq_none h'] at h; cases h
  simp [hi]
theorem lt_of_get {σ : Heap} {i : Nat} {y : Nat × Option Box} (h : σ[i]? = some y) : i < σ.length := by
  rcases Nat.lt_or_ge i σ.length with h' | h'
  · exact h'
  · rw [List.getElem?_eq_none h'] at h; cases h
structure QKeep (σ σ' : Heap) (own own' : Nat → Prop) : Prop where
  len : σ.length ≤ σ'.length
  same : ∀ id, id < σ.length → ¬ own id → σ'[id]? = σ[id]?
  new : ∀ id, own' id → own id ∨ σ.length ≤ id
theorem QKeep.trans {σ σ1 σ2 : Heap} {o o1 o2 : Nat → Prop} (h : QKeep σ σ1 o o1) (h2 : QKeep σ1 σ2 o1 o2) : QKeep σ σ2 o o2 := by
  refine ⟨Nat.le_trans h.len h2.len, fun id hid hno => ?_, fun id hid => ?_⟩
  · have : ¬ o1 id := fun h1 => by
      rcases h.new id h1 with h3 | h3
      · exact hno h3
      · omega
    rw [h2.same id (Nat.lt_of_lt_of_le hid h.len) this, h.same id hid hno]
  · rcases h2.new id hid with h3 | h3
    · exact h.new id h3
    · exact .inr (Nat.le_trans h.len h3)
theorem QKeep.app {σ τ : Heap} {o : Nat → Prop} : QKeep σ (σ ++ τ) o o := ⟨by simp, fun id hid _ => List.getElem?_append_left hid, fun id h => .inl h⟩
theorem QKeep.refl {σ : Heap} {o : Nat → Prop} : QKeep σ σ o o := ⟨Nat.le_refl _, fun id hid _ => rfl, fun id h => .inl h⟩
end Go.Proofs.Ytjaflkgfipaajaa
end
section
set_option linter.unusedVariables false
set_option linter.unusedSimpArgs false
namespace Go.Ab
open Go
section
variable {cx : Cx} {n : Nat} {B : Bs} {k : List AI} {Q : Post} {fr : Fr} {σ : Heap}
def stpY (cx : Cx) (n : Nat) (all : Array Oper) (ops : List Oper) (σ σ1 σ2 : Heap) (j1 j2 : Nat) : List Oper → Nat → Fr → List AV → List Prop
  | o :: r, i, fr, v :: vs => (match Nat.beq i j1 with
    | true => StepX cx n all σ σ1 [] (restr ops o fr) o v
    | false => match Nat.beq i j2 with
      | true => StepX cx n all σ1 σ2 [] (restr ops o fr) o v
      | false => ∀ s, s = σ ∨ s = σ1 ∨ s = σ2 → StepX cx n all s s [] (restr ops o fr) o v) :: stpY cx n all ops σ σ1 σ2 j1 j2 r (i + 1) (setA o.dst v fr) vs
  | _, _, _, _ => []
theorem stpY_spec {σ1 σ2 : Heap} {j1 j2 : Nat} {all : Array Oper} {ops : List Oper} : ∀ {l : List Oper} {i : Nat} {fr : Fr} {vals : List AV}, AllP (stpY cx n all ops σ σ1 σ2 j1 j2 l i fr vals) →
    ∀ (j : Nat) (o : Oper) (v : AV), l[j]? = some o → vals[j]? = some v →
      (i + j ≠ j1 → i + j ≠ j2 → ∀ s : Heap, s = σ ∨ s = σ1 ∨ s = σ2 → StepX cx n all s s [] (restr ops o (ovl (l.take j) (vals.take j) fr)) o v) ∧ (i + j = j1 → StepX cx n all σ σ1 [] (restr ops o (ovl (l.take j) (vals.take j) fr)) o v) ∧ (i + j = j2 → i + j ≠ j1 → StepX cx n all σ1 σ2 [] (restr ops o (ovl (l.take j) (vals.take j) fr)) o v)
  | [], i, fr, vals, hC => fun j o v h => by simp at h
  | o :: l, i, fr, [], hC => fun j o' v h hv => by simp at hv
  | o :: l, i, fr, v :: vs, hC => by
    obtain ⟨h0, hr⟩ := hC
    have ih := stpY_spec hr
    intro j oj vj hj hvj
    cases j with
    | zero =>
      simp only [List.getElem?_cons_zero, Option.some.injEq] at hj hvj
      subst hj; subst hvj
      rw [Nat.add_zero]
      cases hb : Nat.beq i j1 with
      | true =>
        have e := Nat.eq_of_beq_eq_true hb
        rw [hb] at h0
        exact ⟨fun h => absurd e h, fun _ => h0, fun _ h => absurd e h⟩
      | false =>
        have e : i ≠ j1 := fun e => by rw [e, Nat.beq_refl] at hb; cases hb
        rw [hb] at h0
        cases hb2 : Nat.beq i j2 with
        | true =>
          have e2 := Nat.eq_of_beq_eq_true hb2
          simp only [hb2] at h0
          exact ⟨fun _ h => absurd e2 h, fun h => absurd h e, fun _ _ => h0⟩
        | false =>
          have e2 : i ≠ j2 := fun e => by rw [e, Nat.beq_refl] at hb2; cases hb2
          simp only [hb2] at h0
          exact ⟨fun _ _ => h0, fun h => absurd h e, fun h => absurd h e2⟩
    | succ j =>
      simp only [List.getElem?_cons_succ] at hj hvj
      have := ih j oj vj hj hvj
      rw [show i + 1 + j = i + (j + 1) by omega] at this
      exact this
theorem pureY {all : Array Oper} {o : Oper} {v : AV} {C : List Prop} {S : Heap → Prop} (hd : dstOk n o.dst = true) (hg : guardA all o [] fr = some true) (ha : ∀ s, aOp cx [] o.dst o.op fr s = some (C, v, s)) (hC : AllP C) : ∀ s, S s → StepX cx n all s s [] fr o v := fun s _ => opC_step hd hg (ha s) hC
theorem specY {all : Array Oper} {o : Oper} {v : AV} {S : Heap → Prop} (hd : dstOk n o.dst = true) (hg : guardA all o [] fr = some true) (h : ∀ s, S s → OpSpec cx n fr s o v s) : ∀ s, S s → StepX cx n all s s [] fr o v := fun s hs => specC_step hd hg (h s hs)
theorem idxY {all : Array Oper} {o : Oper} {v x : AV} {C : List Prop} {S : Heap → Prop} (hd : dstOk n o.dst = true) (hg : guardA all o [] fr = some true) (ha : ∀ s, idxA cx fr s o.op x = some (C, v)) (hC : AllP C) : ∀ s, S s → StepX cx n all s s [] fr o v := fun s _ => specC_step hd hg fun r a w hi hf => idxA_run hi hf (ha s) hC
theorem S_drawY {id : Nat} (σ1 σ2 : Heap) (j1 md j2 : Nat) {ops : Array Oper} (m : Nat) (vals : List AV) {fr' : Fr} (hP : cx.P.follows .mixedOrders = true) (hchk : drawOk ops.toList m = true) (hmN : Nat.ble m ops.size = true) (hj : Nat.blt j1 j2 = true) (hj2 : Nat.blt j2 m = true) (he1 : edge ops.toList j2 md = true) (he2 : edge ops.toList md j1 = true)
    (hlen : vals.length = m) (hfr : ovl (ops.toList.take m) vals fr = fr') (hC : AllP (stpY cx n ops ops.toList σ σ1 σ2 j1 j2 (ops.toList.take m) 0 fr vals))
    (hk : S cx n B (.ops ops (ops.toList.drop m) [] :: k) Q fr' σ2) : S cx n B (.code (.region id ops true) :: k) Q fr σ := by
  intro r a w hi hf hd hx
  subst hfr
  obtain ⟨c1, c2, c3, c4, c5⟩ := drawOk_spec hchk
  have k3 := stpY_spec hC
  have hmN' := Nat.le_of_ble_eq_true hmN
  have hjlt := blt_lt hj
  have hjlt2 := blt_lt hj2
  obtain ⟨hi1, hx1⟩ := hi.heap_eq (w' := { w with drawn := w.drawn + 1 }) rfl rfl rfl rfl
  have hf1 := hf.mono (hx1.grow hi)
  have nl : ∀ {j : Nat}, ¬ Listed (Array.replicate ops.size false) j := by
    intro j hj
    unfold Listed at hj
    rw [Array.getD_eq_getD_getElem?, Array.getElem?_replicate] at hj
    split at hj <;> simp at hj
  have nlF : ∀ {j : Nat}, (Array.replicate ops.size false).getD j false = false := by
    intro j
    cases hb : (Array.replicate ops.size false).getD j false with
    | false => rfl
    | true => exact absurd hb nl
  have h0 : hp2 σ σ1 σ2 j1 j2 (Array.replicate ops.size false) = σ := by unfold hp2; rw [nlF, nlF]; rfl
  have hgs : ∀ (listed : Array Bool) (i j : Nat), i < listed.size → (listed.setIfInBounds i true).getD j false = if j = i then true else listed.getD j false := by
    intro listed i j hil
    simp only [Array.getD_eq_getD_getElem?, Array.getElem?_setIfInBounds]
    by_cases h : i = j
    · subst h; simp [hil]
    · rw [if_neg h, if_neg (Ne.symm h)]
  have hstep : ∀ (j : Nat) o v, j < m → ops.toList[j]? = some o → vals[j]? = some v → ∀ listed : Array Bool, listed.size = ops.size → ¬ Listed listed j → (∀ i, edge ops.toList j i = true → Listed listed i) → Down ops.toList listed → StepX cx n ops (hp2 σ σ1 σ2 j1 j2 listed) (hp2 σ σ1 σ2 j1 j2 (listed.setIfInBounds j true)) [] (restr ops.toList o (ovl (ops.toList.take j) (vals.take j) fr)) o v := by
    intro j o v hjm ho hv listed hs hnl hed hdn
    have h := k3 j o v (by rw [List.getElem?_take_of_lt hjm]; exact ho) hv
    rw [List.take_take, Nat.min_eq_left (by omega), Nat.zero_add] at h
    have hnlF : listed.getD j false = false := by
      cases hb : listed.getD j false with
      | false => rfl
      | true => exact absurd hb hnl
    by_cases e1 : j = j1
    · subst e1
      have hn2 : listed.getD j2 false = false := by
        cases hb : listed.getD j2 false with
        | false => rfl
        | true => exact absurd (hdn md j (hdn j2 md hb he1) he2) hnl
      have a1 : hp2 σ σ1 σ2 j j2 listed = σ := by unfold hp2; rw [hn2, hnlF]; rfl
      have a2 : hp2 σ σ1 σ2 j j2 (listed.setIfInBounds j true) = σ1 := by
        unfold hp2
        rw [hgs _ _ _ (by omega), hgs _ _ _ (by omega), if_neg (by omega), hn2, if_pos rfl]; rfl
      rw [a1, a2]
      exact h.2.1 rfl
    · by_cases e2 : j = j2
      · subst e2
        have hl1 : listed.getD j1 false = true := hdn md j1 (hed md he1) he2
        have a1 : hp2 σ σ1 σ2 j1 j listed = σ1 := by unfold hp2; rw [hnlF, hl1]; rfl
        have a2 : hp2 σ σ1 σ2 j1 j (listed.setIfInBounds j true) = σ2 := by
          unfold hp2
          rw [hgs _ _ _ (by omega), if_pos rfl]; rfl
        rw [a1, a2]
        exact h.2.2 rfl e1
      · have a1 : hp2 σ σ1 σ2 j1 j2 (listed.setIfInBounds j true) = hp2 σ σ1 σ2 j1 j2 listed := by
          unfold hp2
          rw [hgs _ _ _ (by omega), hgs _ _ _ (by omega), if_neg (Ne.symm e2), if_neg (Ne.symm e1)]
        rw [a1]
        refine h.1 e1 e2 _ ?_
        unfold hp2
        cases listed.getD j2 false <;> cases listed.getD j1 false
        · exact .inl rfl
        · exact .inr (.inl rfl)
        · exact .inr (.inr rfl)
        · exact .inr (.inr rfl)
  refine wp_region_any hP ?_
  refine wpAny_frontG (σ' := σ2) (hp := hp2 σ σ1 σ2 j1 j2) (cx := cx) (n := n) (B := B) (fr := fr) (m := m) (vals := vals) (K := []) hmN' hlen c1 c2 c3 c4 c5 (fun listed hall => ?_) (fun j o hjm ho => ?_) hstep (fun r a w hi hf hd hx => ?_) ops.size _ r a _ (by simp) ?_ (fun j i hj => ?_) (fun j _ => ?_) ⟨hf1.size, fun j d v _ hj => ?_, fun t _ => hf1.get t, hf1.defs⟩ (by rw [h0]; exact hi1) hd (by rw [h0]; exact hx.trans hx1)
  · have : listed.getD j2 false = true := hall j2 hjlt2
    unfold hp2; rw [this]; rfl
  · obtain ⟨v, hv⟩ : ∃ v, vals[j]? = some v := ⟨vals[j]'(by omega), List.getElem?_eq_getElem _⟩
    have h := k3 j o v (by rw [List.getElem?_take_of_lt hjm]; exact ho) hv
    rw [Nat.zero_add] at h
    by_cases e1 : j = j1
    · exact (h.2.1 e1).1
    · by_cases e2 : j = j2
      · exact (h.2.2 e2 e1).1
      · exact (h.1 e1 e2 σ (.inl rfl)).1
  · exact hk r a w hi hf hd hx
  · unfold unl; simp [List.countP_replicate]
  · exact absurd hj nl
  · exact nl
  · exact absurd hj nl
theorem S_shareH {ι : Type} {c : Code} {k' : List AI} (F : ι → Fr) (σ' : ι → Heap) (I : ι → Prop) (hm : (∀ i fr, I i → Weak fr (F i) → S cx n B (.code c :: k') Q fr (σ' i)) → S cx n B k Q fr σ) (hk : ∀ i, I i → S cx n B (.code c :: k') Q (F i) (σ' i)) : S cx n B k Q fr σ :=
  hm fun i _ hi hw => S_code_weak hw (hk i hi)
theorem S_shareO {ι : Type} {all : Array Oper} {l : List Oper} {K : List Nat} {k' : List AI} (F : ι → Fr) (σ' : ι → Heap) (I : ι → Prop) (hm : (∀ i fr, I i → Weak fr (F i) → S cx n B (.ops all l K :: k') Q fr (σ' i)) → S cx n B k Q fr σ) (hk : ∀ i, I i → S cx n B (.ops all l K :: k') Q (F i) (σ' i)) : S cx n B k Q fr σ :=
  hm fun i _ hi hw => S_ops_weak hw (hk i hi)
theorem resCell {a t id cur off : Nat} {cs : List AV} {g : Tag} {v : AV} (hf : fr.get a = .ptr id cur off) (hσ : σ[id]? = some (cur, some (.cells cs g))) (hl : aLoad cx.P t (cs.drop off) = some v) : resOne cx fr σ (.cell a t) = some ([cur = cur], v) := by
  simp only [resOne, hf, boxAt, hσ, hl]
theorem ret_c1 {fn : Func} {R : Out → Heap → Prop} {a t id cur off : Nat} {cs : List AV} {g : Tag} {v : AV} (hr : fn.results.toList = [.cell a t]) (hf : fr.get a = .ptr id cur off) (hσ : σ[id]? = some (cur, some (.cells cs g))) (hl : aLoad cx.P t (cs.drop off) = some v) (hR : R (.ret v) σ) : retQ cx fn R .ret fr σ := by
  refine ⟨[cur = cur], [v], ?_, ⟨rfl, trivial⟩, hR⟩
  rw [hr, resAll, resCell hf hσ hl]
  rfl
theorem ret_c2 {fn : Func} {R : Out → Heap → Prop} {a t id cur off u : Nat} {cs : List AV} {g : Tag} {v x : AV} (hr : fn.results.toList = [.cell a t, .tmp u]) (hf : fr.get a = .ptr id cur off) (hσ : σ[id]? = some (cur, some (.cells cs g))) (hl : aLoad cx.P t (cs.drop off) = some v) (hx : fr.get u = x) (hR : R (.ret (.tup [v, x])) σ) : retQ cx fn R .ret fr σ := by
  refine ⟨[cur = cur], [v, x], ?_, ⟨rfl, trivial⟩, hR⟩
  subst hx
  rw [hr, resAll, resCell hf hσ hl]
  rfl
end
end Go.Ab
end
section
set_option linter.unusedVariables false
set_option linter.unusedSimpArgs false
set_option maxRecDepth 20000
set_option maxHeartbeats 1000000
namespace Go.Proofs.Ytjaflkgfipaajaa
open Go Go.Ab
theorem at1_ok (σ : Heap) (e : QL) (t : QT) (nb : Nat) (num : Int) (ht : σ[e.tid]? = some (0, some (tnB t e))) (hn : σ[nb]? = some (0, some (.cells [.int .i64 num] ⟨false, none⟩))) :
    CallOk cx 34 ([] ++ [.ptr e.tid 0 0] ++ [.ptr nb 0 0]) σ (fun o s => o = .ret (.bool (t.num == num)) ∧ s = σ) :=
  callOk_intro (fun a w => Try.call34 a w) Try.func34 rfl Try.ntmps34 rfl fun B => by
    refine pao [] rfl ?_ ?_
    · (repeat' with_reducible apply AllP_cons) <;> try exact aC
    refine S_drawY σ σ 1 2 3 6 [.ptr e.tid 0 0, .ptr e.tid 0 0, .ptr e.tid 0 0, .int .i64 t.num, .int .i64 num, .bool (t.num == num)] rfl rfl rfl rfl rfl rfl rfl rfl rfl ?_ ?_
    · refine ⟨pureY rfl rfl (fun s => rfl) trivial, ?_, pureY rfl rfl (fun s => rfl) trivial, ?_, ?_, pureY rfl rfl (fun s => rfl) trivial, trivial⟩
      · exact opC_step rfl rfl rfl trivial
      · exact specC_step rfl rfl (OpSpec.loadP rfl rfl rfl rfl ht rfl)
      · exact specY rfl rfl fun s hs => by
          have e : s = σ := by rcases hs with e | e | e <;> exact e
          rw [e]
          exact OpSpec.loadP rfl rfl rfl rfl hn rfl
    refine pao [] rfl ?_ ?_
    · (repeat' with_reducible apply AllP_cons) <;> try exact aC
    exact S_ret ⟨_, _, rfl, trivial, rfl, rfl⟩
theorem IndexFuncT_ok (σ : Heap) (rid rv : Nat) (es : List QL) (ring : List QT) (nb : Nat) (num : Int) (hr : σ[rid]? = some (rv, some (.cells (rgC es) ⟨false, none⟩))) (ht : TnAt σ es ring) (hn : σ[nb]? = some (0, some (.cells [.int .i64 num] ⟨false, none⟩))) (hl : ring.length ≤ 1000000) :
    CallOk cx 33 [.ms rid rv 0 ring.length 1 false, .func (.func 34) [] [.ptr nb 0 0]] σ (fun o s => o = .ret (.int .i64 (match ring.findIdx? (fun t => t.num == num) with | some i => (i : Int) | none => -1)) ∧ s = σ) :=
  callOk_intro (fun a w => Try.call33 a w) Try.func33 rfl Try.ntmps33 rfl fun B => by
    have hlen := ht.len
    refine pao [] rfl ?_ ?_
    · (repeat' with_reducible apply AllP_cons) <;> try exact aC
    refine S_while (α := Nat) (fun i => [(0, .ms rid rv 0 ring.length 1 false), (1, .func (.func 34) [] [.ptr nb 0 0]), (7, .int .i64 (ring.length : Nat)), (8, .int .i64 (i : Nat))]) (fun _ => σ) (fun i => i ≤ ring.length ∧ ∀ k (hk : k < ring.length), k < i → (ring[k].num == num) = false) (fun i => ring.length - i) 0
      ⟨Nat.zero_le _, fun k hk h => absurd h (Nat.not_lt_zero _)⟩ (.cons rfl (.cons rfl (.cons rfl (.cons rfl (.nil _))))) rfl ?_
    rintro i ⟨hi, hN⟩
    have hi : i ≤ ring.length := hi
    by_cases hlt : i < ring.length
    · have e1 : decide ((i : Int) < (ring.length : Int)) = true := decide_eq_true (by omega)
      obtain ⟨h1, h2⟩ := ht.get i (by omega) hlt
      have hC := at1_ok σ es[i] ring[i] nb num h1 hn
      have hx : ((rgC es).drop (offN 0 (mulN ((i : Int)).toNat 1)))[0]? = some (.ptr es[i].tid 0 0) := by
        rw [offN_eq, mulN_eq, Int.toNat_natCast, List.getElem?_drop]
        have e : 0 + i * 1 + 0 = i := by omega
        rw [e]
        simp [rgC, hlen, hlt]
      cases hb : ring[i].num == num with
      | true =>
        rw [hb] at hC
        refine pao [.b true, .v .top, .v (.ptr es[i].tid 0 0), .k (.bool true), .b true] rfl ?_ ?_
        · (repeat' with_reducible apply AllP_cons) <;> try exact aC
          · exact OpSpec.loadE rfl rfl rfl rfl hr hx
        refine S_ret ⟨_, _, rfl, trivial, ?_, rfl⟩
        have : ring.findIdx? (fun t => t.num == num) = some i := by
          rw [List.findIdx?_eq_some_iff_getElem]
          exact ⟨hlt, hb, fun j hj => by simp [hN j (by omega) hj]⟩
        rw [this]; rfl
      | false =>
        rw [hb] at hC
        refine pao [.b true, .v .top, .v (.ptr es[i].tid 0 0), .k (.bool false), .b false] rfl ?_ ?_
        · (repeat' with_reducible apply AllP_cons) <;> try exact aC
          · exact OpSpec.loadE rfl rfl rfl rfl hr hx
        refine S_round (i + 1) (by show ring.length - (i + 1) < ring.length - i; omega) ⟨hlt, fun k hk h => ?_⟩ (.cons rfl (.cons rfl (.cons rfl (.cons (ai64 (by omega) (by omega)) (.nil _))))) rfl
        have h : k < i + 1 := h
        by_cases hki : k < i
        · exact hN k hk hki
        · have : k = i := by omega
          subst this; exact hb
    · have e1 : decide ((i : Int) < (ring.length : Int)) = false := decide_eq_false (by omega)
      refine pao [.b false] rfl ?_ ?_
      · (repeat' with_reducible apply AllP_cons) <;> try exact aC
      refine S_ret ⟨_, _, rfl, trivial, ?_, rfl⟩
      have : ring.findIdx? (fun t => t.num == num) = none := by
        rw [List.findIdx?_eq_none_iff]
        intro x hx
        obtain ⟨k, hk, rfl⟩ := List.getElem_of_mem hx
        exact hN k hk (by omega)
      rw [this]; rfl
def atQ (ring : List QT) (num : Int) : Int := match ring.findIdx? (fun t => t.num == num) with | some i => (i : Int) | none => -1
theorem app_get {σ : Heap} {i : Nat} {y x : Nat × Option Box} (h : σ[i]? = some y) : (σ ++ [x])[i]? = some y := by
  have hi : i < σ.length := by
    rcases Nat.lt_or_ge i σ.length with h' | h'
    · exact h'
    · rw [List.getElem?_eq_none h'] at h; cases h
  rw [List.getElem?_append_left hi]; exact h
theorem app_last {σ : Heap} {x : Nat × Option Box} : (σ ++ [x])[σ.length]? = some x := by simp
theorem TnAt.mono {σ σ' : Heap} {es : List QL} {ts : List QT} (h : TnAt σ es ts) (hk : ∀ (i : Nat) (y : Nat × Option Box), σ[i]? = some y → σ'[i]? = some y) : TnAt σ' es ts := by
  induction h with
  | nil => exact .nil
  | cons h1 h2 h ih => exact .cons (hk _ _ h1) (hk _ _ h2) ih
theorem QAt.mono {σ σ' : Heap} {q rid rv : Nat} {es : List QL} {quan : Int} {ring : List QT} (h : QAt σ q rid rv es quan ring) (ha : Alive σ') (hk : ∀ (i : Nat) (y : Nat × Option Box), σ[i]? = some y → σ'[i]? = some y) : QAt σ' q rid rv es quan ring :=
  ⟨ha, hk _ _ h.qb, hk _ _ h.rb, h.tn.mono hk, h.ap⟩
theorem QAt.app {σ : Heap} {q rid rv : Nat} {es : List QL} {quan : Int} {ring : List QT} (h : QAt σ q rid rv es quan ring) (v : Nat) (x : Box) : QAt (σ ++ [(v, some x)]) q rid rv es quan ring := h.mono (h.al.app v x) fun i y hy => app_get hy
theorem at_ok (σ : Heap) (q rid rv : Nat) (es : List QL) (quan : Int) (ring : List QT) (num : Int) (h : QAt σ q rid rv es quan ring) (hl : ring.length ≤ 1000000) :
    CallOk cx 24 [.ptr q 0 0, .int .i64 num] σ (fun o s => o = .ret (.int .i64 (atQ ring num)) ∧ s = σ ++ [(0, some (.cells [.int .i64 num] ⟨false, none⟩))]) :=
  callOk_intro (fun a w => Try.call24 a w) Try.func24 rfl Try.ntmps24 rfl fun B => by
    have h2 := h.app 0 (.cells [.int .i64 num] ⟨false, none⟩)
    have hI := IndexFuncT_ok (σ ++ [(0, some (.cells [.int .i64 num] ⟨false, none⟩))]) rid rv es ring σ.length num h2.rb h2.tn app_last hl
    refine pao [.f (.ptr σ.length 0 0) (fun s => s ++ [(0, some (.cells [.int .i64 num] ⟨false, none⟩))]), .v (.ms rid rv 0 ring.length 1 false), .k (.int .i64 (atQ ring num))] rfl ?_ ?_
    · (repeat' with_reducible apply AllP_cons) <;> try exact aC
      · exact OpSpec.boxE (y := .int .i64 num) rfl rfl rfl rfl h.al
      · exact OpSpec.loadP rfl rfl rfl rfl h2.qb rfl
    exact S_ret ⟨_, _, rfl, trivial, rfl, rfl⟩
theorem find1_ok (σ : Heap) (j : QJ) (nb : Nat) (name : Nm) (ha : Alive σ) (hn : σ[nb]? = some (0, some (.cells [.str name] ⟨false, none⟩))) :
    CallOk cx 32 ([] ++ [jobA j] ++ [.ptr nb 0 0]) σ (fun o s => o = .ret (.bool (j.name == name)) ∧ s = σ ++ [(0, some (.cells j.cells ⟨false, some 34⟩))]) :=
  callOk_intro (fun a w => Try.call32 a w) Try.func32 rfl Try.ntmps32 rfl fun B => by
    refine pao [.f (.ptr σ.length 0 0) (fun s => s ++ [(0, some (.cells j.cells ⟨false, some 34⟩))]), .v (.str j.name), .v (.str name)] rfl ?_ ?_
    · (repeat' with_reducible apply AllP_cons) <;> try exact aC
      · exact OpSpec.boxE (y := jobA j) rfl rfl rfl rfl ha
      · exact OpSpec.loadP rfl rfl rfl rfl app_last rfl
      · exact OpSpec.loadP rfl rfl rfl rfl (app_get hn) rfl
    exact S_ret ⟨_, _, rfl, trivial, rfl, rfl⟩
end Go.Proofs.Ytjaflkgfipaajaa
end
section
set_option linter.unusedVariables false
set_option linter.unusedSimpArgs false
set_option maxRecDepth 20000
set_option maxHeartbeats 1000000
namespace Go.Proofs.Ytjaflkgfipaajaa
open Go Go.Ab
theorem alive_apps {σ τ : Heap} (h : Alive σ) (ht : Alive τ) : Alive (σ ++ τ) := fun e he => by
  rcases List.mem_append.1 he with he | he
  · exact h e he
  · exact ht e he
theorem apps_get {σ τ : Heap} {i : Nat} {y : Nat × Option Box} (h : σ[i]? = some y) : (σ ++ τ)[i]? = some y := by
  have hi : i < σ.length := by
    rcases Nat.lt_or_ge i σ.length with h' | h'
    · exact h'
    · rw [List.getElem?_eq_none h'] at h; cases h
  rw [List.getElem?_append_left hi]; exact h
def jbX (j : QJ) : Nat × Option Box := (0, some (.cells j.cells ⟨false, some 34⟩))
theorem jbX_al (l : List QJ) : Alive (l.map jbX) := fun e he => by obtain ⟨j, _, rfl⟩ := List.mem_map.1 he; exact ⟨_, rfl⟩
def askedJ (l : List QJ) (name : Nm) : Nat := match l.findIdx? (fun j => j.name == name) with | some k => k + 1 | none => l.length
def idxJ (l : List QJ) (name : Nm) : Int := match l.findIdx? (fun j => j.name == name) with | some k => (k : Int) | none => -1
theorem IndexFuncJ_ok (σ : Heap) (jid jv : Nat) (l : List QJ) (nb : Nat) (name : Nm) (ha : Alive σ) (hj : σ[jid]? = some (jv, some (.cells (jbC l) ⟨false, none⟩))) (hn : σ[nb]? = some (0, some (.cells [.str name] ⟨false, none⟩))) (hl : l.length ≤ 1000000) :
    CallOk cx 31 [.ms jid jv 0 l.length 3 false, .func (.func 32) [] [.ptr nb 0 0]] σ (fun o s => o = .ret (.int .i64 (idxJ l name)) ∧ s = σ ++ (l.take (askedJ l name)).map jbX) :=
  callOk_intro (fun a w => Try.call31 a w) Try.func31 rfl Try.ntmps31 rfl fun B => by
    refine pao [] rfl ?_ ?_
    · (repeat' with_reducible apply AllP_cons) <;> try exact aC
    refine S_while (α := Nat) (fun i => [(0, .ms jid jv 0 l.length 3 false), (1, .func (.func 32) [] [.ptr nb 0 0]), (7, .int .i64 (l.length : Nat)), (8, .int .i64 (i : Nat))]) (fun i => σ ++ (l.take i).map jbX) (fun i => i ≤ l.length ∧ ∀ k (hk : k < l.length), k < i → (l[k].name == name) = false) (fun i => l.length - i) 0
      ⟨Nat.zero_le _, fun k hk h => absurd h (Nat.not_lt_zero _)⟩ (.cons rfl (.cons rfl (.cons rfl (.cons rfl (.nil _))))) (by simp) ?_
    rintro i ⟨hi, hN⟩
    have hi : i ≤ l.length := hi
    have hal : Alive (σ ++ (l.take i).map jbX) := alive_apps ha (jbX_al _)
    by_cases hlt : i < l.length
    · have e1 : decide ((i : Int) < (l.length : Int)) = true := decide_eq_true (by omega)
      have hC := find1_ok (σ ++ (l.take i).map jbX) l[i] nb name hal (apps_get hn)
      obtain ⟨g1, g2⟩ := jbC_at hlt
      have hnx : (σ ++ (l.take i).map jbX) ++ [(0, some (.cells (l[i]).cells ⟨false, some 34⟩))] = σ ++ (l.take (i + 1)).map jbX := by
        rw [List.take_succ_eq_append_getElem hlt, List.map_append, List.append_assoc]; rfl
      rw [hnx] at hC
      have hL : ∀ {fr : Fr} {o : Oper} {a : Operand}, o.op = .load 34 a → ev cx fr a = .eptr jid jv (offN 0 (mulN ((i : Int)).toNat 3)) → OpSpec cx 19 fr (σ ++ (l.take i).map jbX) o (jobA l[i]) (σ ++ (l.take i).map jbX) := fun ho he =>
        OpSpec.loadEA ho rfl rfl he (apps_get hj) g2 (by show jobA l[i] = AV.agg (List.take 3 _); rw [g1]; rfl)
      cases hb : l[i].name == name with
      | true =>
        rw [hb] at hC
        have hfi : l.findIdx? (fun j => j.name == name) = some i := by
          rw [List.findIdx?_eq_some_iff_getElem]
          exact ⟨hlt, hb, fun j hj => by simp [hN j (by omega) hj]⟩
        refine pao [.b true, .v .top, .v (jobA l[i]), .f (.bool true) (fun _ => σ ++ (l.take (i + 1)).map jbX), .b true] rfl ?_ ?_
        · (repeat' with_reducible apply AllP_cons) <;> try exact aC
          · exact hL rfl rfl
        refine S_ret ⟨_, _, rfl, trivial, ?_, ?_⟩
        · unfold idxJ; rw [hfi]; rfl
        · unfold askedJ; rw [hfi]
      | false =>
        rw [hb] at hC
        refine pao [.b true, .v .top, .v (jobA l[i]), .f (.bool false) (fun _ => σ ++ (l.take (i + 1)).map jbX), .b false] rfl ?_ ?_
        · (repeat' with_reducible apply AllP_cons) <;> try exact aC
          · exact hL rfl rfl
        refine S_round (i + 1) (by show l.length - (i + 1) < l.length - i; omega) ⟨hlt, fun k hk h => ?_⟩ (.cons rfl (.cons rfl (.cons rfl (.cons (ai64 (by omega) (by omega)) (.nil _))))) rfl
        have h : k < i + 1 := h
        by_cases hki : k < i
        · exact hN k hk hki
        · have : k = i := by omega
          subst this; exact hb
    · have hie : i = l.length := by omega
      have e1 : decide ((i : Int) < (l.length : Int)) = false := decide_eq_false (by omega)
      have hfi : l.findIdx? (fun j => j.name == name) = none := by
        rw [List.findIdx?_eq_none_iff]
        intro x hx
        obtain ⟨k, hk, rfl⟩ := List.getElem_of_mem hx
        exact hN k hk (by omega)
      refine pao [.b false] rfl ?_ ?_
      · (repeat' with_reducible apply AllP_cons) <;> try exact aC
      refine S_ret ⟨_, _, rfl, trivial, ?_, ?_⟩
      · unfold idxJ; rw [hfi]; rfl
      · unfold askedJ; rw [hfi, hie]
def fndQ : List QT → Nm → Option (Nat × Nat)
  | [], _ => none
  | t :: r, name => match t.jobs.findIdx? (fun j => j.name == name) with
    | some k => some (0, k)
    | none => (fndQ r name).map fun p => (p.1 + 1, p.2)
def fndI (ring : List QT) (name : Nm) : Int := match fndQ ring name with | some p => (p.1 : Int) | none => -1
def fndK (ring : List QT) (name : Nm) : Int := match fndQ ring name with | some p => (p.2 : Int) | none => -1
theorem fnd_at {name : Nm} : ∀ {ring : List QT} {i k : Nat} (hi : i < ring.length), (ring[i]).jobs.findIdx? (fun j => j.name == name) = some k → (∀ m (hm : m < ring.length), m < i → (ring[m]).jobs.findIdx? (fun j => j.name == name) = none) → fndQ ring name = some (i, k)
  | [], i, k, hi, _, _ => by cases hi
  | t :: r, 0, k, hi, h, _ => by rw [fndQ]; simp only [List.getElem_cons_zero] at h; rw [h]
  | t :: r, i + 1, k, hi, h, hn => by
    have h0 := hn 0 (by simp) (by omega)
    simp only [List.getElem_cons_zero] at h0
    rw [fndQ, h0]
    have := fnd_at (ring := r) (i := i) (k := k) (Nat.lt_of_succ_lt_succ hi) (by simpa using h) (fun m hm hlt => by
      have := hn (m + 1) (Nat.succ_lt_succ hm) (by omega)
      simpa using this)
    simp only [this]
    rfl
theorem fnd_no {name : Nm} : ∀ {ring : List QT}, (∀ m (hm : m < ring.length), (ring[m]).jobs.findIdx? (fun j => j.name == name) = none) → fndQ ring name = none
  | [], _ => rfl
  | t :: r, hn => by
    have h0 := hn 0 (by simp)
    simp only [List.getElem_cons_zero] at h0
    rw [fndQ, h0]
    have := fnd_no (ring := r) (fun m hm => by
      have := hn (m + 1) (Nat.succ_lt_succ hm)
      simpa using this)
    simp only [this]
    rfl
theorem find_ok (σ : Heap) (q rid rv : Nat) (es : List QL) (quan : Int) (ring : List QT) (name : Nm) (h : QAt σ q rid rv es quan ring) (hl : ring.length ≤ 1000000) (hjl : ∀ t ∈ ring, t.jobs.length ≤ 1000000) :
    CallOk cx 23 [.ptr q 0 0, .str name] σ (fun o s => o = .ret (.tup [.int .i64 (fndI ring name), .int .i64 (fndK ring name)]) ∧ ∃ τ, Alive τ ∧ s = σ ++ τ) :=
  callOk_intro (fun a w => Try.call23 a w) Try.func23 rfl Try.ntmps23 rfl fun B => by
    have hlen := h.tn.len
    have h2 := h.app 0 (.cells [.str name] ⟨false, none⟩)
    refine pao [.f (.ptr σ.length 0 0) (fun s => s ++ [(0, some (.cells [.str name] ⟨false, none⟩))]), .v (.ms rid rv 0 ring.length 1 false)] rfl ?_ ?_
    · (repeat' with_reducible apply AllP_cons) <;> try exact aC
      · exact OpSpec.boxE (y := .str name) rfl rfl rfl rfl h.al
      · exact OpSpec.loadP rfl rfl rfl rfl h2.qb rfl
    refine S_while (α := Nat × Heap) (fun s => [(3, .ptr σ.length 0 0), (12, .ms rid rv 0 ring.length 1 false), (13, .int .i64 (ring.length : Nat)), (14, .int .i64 (s.1 : Nat))]) (fun s => (σ ++ [(0, some (.cells [.str name] ⟨false, none⟩))]) ++ s.2) (fun s => s.1 ≤ ring.length ∧ Alive s.2 ∧ ∀ m (hm : m < ring.length), m < s.1 → (ring[m]).jobs.findIdx? (fun j => j.name == name) = none) (fun s => ring.length - s.1) (0, [])
      ⟨Nat.zero_le _, (fun e he => by cases he), fun m hm hh => absurd hh (Nat.not_lt_zero _)⟩ (.cons rfl (.cons rfl (.cons rfl (.cons rfl (.nil _))))) (by simp) ?_
    rintro ⟨i, τ⟩ ⟨hi, hτ, hN⟩
    simp only at hi hτ hN
    have h3 : QAt ((σ ++ [(0, some (.cells [.str name] ⟨false, none⟩))]) ++ τ) q rid rv es quan ring := h2.mono (alive_apps h2.al hτ) fun i y hy => apps_get hy
    have hnb : ((σ ++ [(0, some (Box.cells [.str name] ⟨false, none⟩))]) ++ τ)[σ.length]? = some (0, some (.cells [.str name] ⟨false, none⟩)) := apps_get app_last
    generalize hσ3 : (σ ++ [(0, some (Box.cells [.str name] ⟨false, none⟩))]) ++ τ = σ3 at *
    by_cases hlt : i < ring.length
    · have e1 : decide ((i : Int) < (ring.length : Int)) = true := decide_eq_true (by omega)
      obtain ⟨k1, k2⟩ := h3.tn.get i (by omega) hlt
      have hjz := hjl _ (List.getElem_mem hlt)
      have hI := IndexFuncJ_ok σ3 es[i].jid es[i].jv ring[i].jobs σ.length name h3.al k2 hnb hjz
      have hx : ((rgC es).drop (offN 0 (mulN ((i : Int)).toNat 1)))[0]? = some (.ptr es[i].tid 0 0) := by
        rw [offN_eq, mulN_eq, Int.toNat_natCast, List.getElem?_drop]
        have e : 0 + i * 1 + 0 = i := by omega
        rw [e]
        simp [rgC, hlen, hlt]
      have hgr : σ3 ++ (ring[i].jobs.take (askedJ ring[i].jobs name)).map jbX = (σ ++ [(0, some (Box.cells [.str name] ⟨false, none⟩))]) ++ (τ ++ (ring[i].jobs.take (askedJ ring[i].jobs name)).map jbX) := by rw [← hσ3, List.append_assoc (σ ++ _)]
      cases hf : ring[i].jobs.findIdx? (fun j => j.name == name) with
      | some k =>
        have hq := fnd_at hlt hf hN
        have hik : idxJ ring[i].jobs name = (k : Int) := by unfold idxJ; rw [hf]
        rw [hik] at hI
        have hge : decide ((k : Int) ≥ 0) = true := decide_eq_true (by omega)
        refine pao [.b true, .v .top, .v (.ptr es[i].tid 0 0), .v (.ms es[i].jid es[i].jv 0 ring[i].jobs.length 3 false), .f (.int .i64 (k : Nat)) (fun _ => σ3 ++ (ring[i].jobs.take (askedJ ring[i].jobs name)).map jbX), .b true] rfl ?_ ?_
        · (repeat' with_reducible apply AllP_cons) <;> try exact aC
          · exact OpSpec.loadE rfl rfl rfl rfl h3.rb hx
          · exact OpSpec.loadP rfl rfl rfl rfl k1 rfl
        refine S_ret ⟨_, _, rfl, trivial, ?_, [(0, some (.cells [.str name] ⟨false, none⟩))] ++ (τ ++ (ring[i].jobs.take (askedJ ring[i].jobs name)).map jbX), ?_, ?_⟩
        · unfold fndI fndK; rw [hq]; rfl
        · exact alive_apps (fun e he => by rw [List.mem_singleton.1 he]; exact ⟨_, rfl⟩) (alive_apps hτ (jbX_al _))
        · rw [hgr, List.append_assoc]
      | none =>
        have hik : idxJ ring[i].jobs name = -1 := by unfold idxJ; rw [hf]
        rw [hik] at hI
        refine pao [.b true, .v .top, .v (.ptr es[i].tid 0 0), .v (.ms es[i].jid es[i].jv 0 ring[i].jobs.length 3 false), .f (.int .i64 (-1)) (fun _ => σ3 ++ (ring[i].jobs.take (askedJ ring[i].jobs name)).map jbX), .b false] rfl ?_ ?_
        · (repeat' with_reducible apply AllP_cons) <;> try exact aC
          · exact OpSpec.loadE rfl rfl rfl rfl h3.rb hx
          · exact OpSpec.loadP rfl rfl rfl rfl k1 rfl
        refine S_round (i + 1, τ ++ (ring[i].jobs.take (askedJ ring[i].jobs name)).map jbX) (by show ring.length - (i + 1) < ring.length - i; omega) ⟨hlt, alive_apps hτ (jbX_al _), fun m hm hh => ?_⟩ (.cons rfl (.cons rfl (.cons rfl (.cons (ai64 (by omega) (by omega)) (.nil _))))) hgr
        have hh : m < i + 1 := hh
        by_cases hmi : m < i
        · exact hN m hm hmi
        · have : m = i := by omega
          subst this; exact hf
    · have e1 : decide ((i : Int) < (ring.length : Int)) = false := decide_eq_false (by omega)
      have hq := fnd_no (fun m hm => hN m hm (by omega))
      refine pao [.b false] rfl ?_ ?_
      · (repeat' with_reducible apply AllP_cons) <;> try exact aC
      refine S_ret ⟨_, _, rfl, trivial, ?_, [(0, some (.cells [.str name] ⟨false, none⟩))] ++ τ, ?_, ?_⟩
      · unfold fndI fndK; rw [hq]; rfl
      · exact alive_apps (fun e he => by rw [List.mem_singleton.1 he]; exact ⟨_, rfl⟩) hτ
      · rw [← hσ3, List.append_assoc]
end Go.Proofs.Ytjaflkgfipaajaa
end
section
set_option linter.unusedVariables false
set_option linter.unusedSimpArgs false
set_option maxRecDepth 20000
namespace Go.Proofs.Ytjaflkgfipaajaa
open Go Go.Ab
def nameP (c : Nat) : Prop := (97 ≤ c ∧ c ≤ 122) ∨ (48 ≤ c ∧ c ≤ 57) ∨ c = 95 ∨ c = 45 ∨ c = 46
instance (c : Nat) : Decidable (nameP c) := by unfold nameP; infer_instance
def nameB (c : UInt8) : Bool := decide (nameP c.toNat)
def isName (s : List UInt8) : Bool := s.all nameB && (decide (1 ≤ s.length) && (decide (s.length ≤ 20) && (s != [46] && s != [46, 46])))
theorem takeN {p : UInt8 → Bool} {s : List UInt8} {i : Nat} (h : i < s.length) (ha : (s.take i).all p = true) (hp : p s[i] = true) : (s.take (i + 1)).all p = true := by
  rw [List.take_succ_eq_append_getElem h, List.all_append, ha]
  simp [hp]
theorem notName {s : List UInt8} {i : Nat} (h : i < s.length) (hp : ¬ nameP s[i].toNat) : isName s = false := by
  have : s.all nameB = false := by
    rw [List.all_eq_false]
    exact ⟨s[i], List.getElem_mem h, by simp [nameB, hp]⟩
  rw [isName, this]; rfl
theorem mark_iff {r : Int} : 0 ≤ markAt r ↔ r = 95 ∨ r = 45 ∨ r = 46 := by
  unfold markAt
  split
  · exact ⟨fun _ => .inl (by assumption), fun _ => by decide⟩
  · split
    · exact ⟨fun _ => .inr (.inl (by assumption)), fun _ => by decide⟩
    · split
      · exact ⟨fun _ => .inr (.inr (by assumption)), fun _ => by decide⟩
      · exact ⟨fun h => absurd h (by decide), fun h => by omega⟩
theorem isName_ok (s : List UInt8) (hs : s.length ≤ 9223372036854775807) : Calc cx 22 [.str s] (.bool (isName s)) :=
  pure_intro (fun a w => Try.call22 a w) Try.func22 rfl Try.ntmps22 rfl .bool fun B => by
    refine ab 1000 rfl trivial ?_
    refine S_while (α := Nat) (fun i => [(0, .str s), (6, .ptr 0 0 0)]) (fun i => [(0, some (.siter s i))]) (fun i => i ≤ s.length ∧ (s.take i).all nameB = true) (fun i => s.length - i) 0
      ⟨Nat.zero_le _, rfl⟩ (.cons rfl (.cons rfl (.nil _))) rfl ?_
    rintro i ⟨hi, hN⟩
    refine ab 1000 rfl trivial ?_
    refine S_next rfl rfl rfl rfl rfl (fun hil => ?_) (fun hge => ?_)
    · refine ab 1000 rfl trivial ?_
      refine S_cond rfl (fun _ => ?_) (fun h => by cases h)
      refine ab 1000 rfl trivial ?_
      obtain ⟨r, wd, hrw, hhex, hwd⟩ : ∃ (r wd : Nat), decL s i = (r, wd) ∧ (nameP s[i].toNat ↔ (97 ≤ r ∧ r ≤ 122) ∨ (48 ≤ r ∧ r ≤ 57) ∨ 0 ≤ markAt r) ∧ (nameP s[i].toNat → wd = 1) := by
        by_cases hc : s[i].toNat < 128
        · exact ⟨_, _, decL_lt hil hc, by rw [mark_iff]; unfold nameP; omega, fun _ => rfl⟩
        · have h1 := decL_ge hil (by omega)
          have h2 : ¬ nameP s[i].toNat := by unfold nameP; omega
          obtain ⟨q1, q2, hq⟩ : ∃ a b, decL s i = (a, b) := ⟨_, _, rfl⟩
          rw [hq] at h1
          have h1 : 128 ≤ q1 := h1
          exact ⟨q1, q2, hq, ⟨fun h => absurd h h2, fun h => by rw [mark_iff] at h; omega⟩, fun h => absurd h h2⟩
      rw [hrw]
      refine S_split 3 (fun fr σ => Weak fr [(0, .str s), (6, .ptr 0 0 0), (4, .int .i32 (r : Nat)), (15, .bool (decide (¬ (97 ≤ r ∧ r ≤ 122))))] ∧ σ = [(0, some (.siter s (i + wd)))]) ?_ ?_
      · refine S_guard rfl rfl rfl rfl (fun h => ?_) (fun h => ?_)
        · have h : (r : Int) < 97 := of_decide_eq_true h
          refine ab 1000 rfl trivial ?_
          exact S_inv ⟨.cons rfl (.cons rfl (.cons rfl (.cons (by show AV.bool true = _; rw [decide_eq_true (by omega)]) (.nil _)))), rfl⟩
        · have h : ¬ (r : Int) < 97 := of_decide_eq_false h
          refine ab 1000 rfl trivial ?_
          exact S_inv ⟨.cons rfl (.cons rfl (.cons rfl (.cons (by show AV.bool (decide ((122 : Int) < r)) = _; exact congrArg AV.bool (decide_eq_decide.2 (by omega))) (.nil _)))), rfl⟩
      rintro fr σ ⟨hw, rfl⟩
      refine S_opsW hw ?_
      refine ab 1000 rfl trivial ?_
      refine S_split 7 (fun fr σ => Weak fr [(0, .str s), (6, .ptr 0 0 0), (4, .int .i32 (r : Nat)), (23, .bool (decide (¬ (97 ≤ r ∧ r ≤ 122) ∧ ¬ (48 ≤ r ∧ r ≤ 57))))] ∧ σ = [(0, some (.siter s (i + wd)))]) ?_ ?_
      · refine S_guard rfl rfl rfl rfl (fun h => ?_) (fun h => ?_)
        · have h : ¬ (97 ≤ r ∧ r ≤ 122) := of_decide_eq_true h
          refine ab 1000 rfl trivial ?_
          refine S_guard rfl rfl rfl rfl (fun h2 => ?_) (fun h2 => ?_)
          · have h2 : (r : Int) < 48 := of_decide_eq_true h2
            refine ab 1000 rfl trivial ?_
            exact S_inv ⟨.cons rfl (.cons rfl (.cons rfl (.cons (by show AV.bool true = _; rw [decide_eq_true (by omega)]) (.nil _)))), rfl⟩
          · have h2 : ¬ (r : Int) < 48 := of_decide_eq_false h2
            refine ab 1000 rfl trivial ?_
            exact S_inv ⟨.cons rfl (.cons rfl (.cons rfl (.cons (by show AV.bool (decide ((57 : Int) < r)) = _; exact congrArg AV.bool (decide_eq_decide.2 (by omega))) (.nil _)))), rfl⟩
        · have h : ¬ ¬ (97 ≤ r ∧ r ≤ 122) := of_decide_eq_false h
          refine ab 1000 rfl trivial ?_
          exact S_inv ⟨.cons rfl (.cons rfl (.cons rfl (.cons (by show AV.bool false = _; rw [decide_eq_false (by omega)]) (.nil _)))), rfl⟩
      rintro fr σ ⟨hw, rfl⟩
      refine S_opsW hw ?_
      refine ab 1000 rfl trivial ?_
      have no : ¬ nameP s[i].toNat → AV.bool false = .bool (isName s) := fun h => by rw [notName hil h]
      have yes : nameP s[i].toNat → nameB s[i] = true := fun h => decide_eq_true h
      refine S_guard rfl rfl rfl rfl (fun h => ?_) (fun h => ?_)
      · have h : ¬ (97 ≤ r ∧ r ≤ 122) ∧ ¬ (48 ≤ r ∧ r ≤ 57) := of_decide_eq_true h
        refine ab 1000 rfl trivial ?_
        refine S_pure rfl rfl rfl (containsRune_ok r) (.cons (.refl .str) (.cons (.refl .int) (.nil _))) ?_
        refine ab 1000 rfl trivial ?_
        refine S_cond rfl (fun h3 => ?_) (fun h3 => ?_)
        · have h3 : (!decide (0 ≤ markAt r)) = true := h3
          have h4 : ¬ 0 ≤ markAt r := by simpa using h3
          refine ab 1000 rfl trivial ?_
          exact S_retc .bool rfl trivial (no (fun hn => by have := hhex.1 hn; omega))
        · have h3 : (!decide (0 ≤ markAt r)) = false := h3
          have h4 : 0 ≤ markAt r := by simpa using h3
          have hn := hhex.2 (.inr (.inr h4))
          have := hwd hn
          subst this
          refine ab 1000 rfl trivial ?_
          exact S_round (i + 1) (by show s.length - (i + 1) < s.length - i; omega) ⟨hil, takeN hil hN (yes hn)⟩ (.cons rfl (.cons rfl (.nil _))) rfl
      · have h : ¬ (¬ (97 ≤ r ∧ r ≤ 122) ∧ ¬ (48 ≤ r ∧ r ≤ 57)) := of_decide_eq_false h
        have hn := hhex.2 (by omega)
        have := hwd hn
        subst this
        refine ab 1000 rfl trivial ?_
        refine S_cond rfl (fun h => by cases h) (fun _ => ?_)
        refine ab 1000 rfl trivial ?_
        exact S_round (i + 1) (by show s.length - (i + 1) < s.length - i; omega) ⟨hil, takeN hil hN (yes hn)⟩ (.cons rfl (.cons rfl (.nil _))) rfl
    · have hil : i = s.length := by omega
      refine ab 1000 rfl trivial ?_
      refine S_cond rfl (fun h => by cases h) (fun _ => ?_)
      refine ab 1000 rfl trivial ?_
      rw [hil, List.take_length] at hN
      refine S_guard rfl rfl rfl rfl (fun h => ?_) (fun h => ?_)
      · have h : (1 : Int) ≤ (s.length : Nat) := of_decide_eq_true h
        refine ab 1000 rfl trivial ?_
        refine S_guard rfl rfl rfl rfl (fun h2 => ?_) (fun h2 => ?_)
        · have h2 : (s.length : Int) ≤ 20 := of_decide_eq_true h2
          refine ab 1000 rfl trivial ?_
          refine S_guard rfl rfl rfl rfl (fun h3 => ?_) (fun h3 => ?_)
          · refine ab 1000 rfl trivial ?_
            refine S_retc .bool rfl trivial ?_
            show AV.bool (!(s == [46, 46])) = _
            have h3 : (!(s == [46])) = true := h3
            rw [isName, hN, decide_eq_true (p := 1 ≤ s.length) (by omega), decide_eq_true (p := s.length ≤ 20) (by omega), bne, h3]; rfl
          · refine ab 1000 rfl trivial ?_
            refine S_retc .bool rfl trivial ?_
            have h3 : (!(s == [46])) = false := h3
            rw [isName, hN, decide_eq_true (p := 1 ≤ s.length) (by omega), decide_eq_true (p := s.length ≤ 20) (by omega), bne, h3]; rfl
        · have h2 : ¬ (s.length : Int) ≤ 20 := of_decide_eq_false h2
          refine ab 1000 rfl trivial ?_
          refine S_guard rfl rfl rfl rfl (fun h => by cases h) (fun _ => ?_)
          refine ab 1000 rfl trivial ?_
          refine S_retc .bool rfl trivial ?_
          rw [isName, hN, decide_eq_false (p := s.length ≤ 20) (by omega)]; simp; rfl
      · have h : ¬ (1 : Int) ≤ (s.length : Nat) := of_decide_eq_false h
        refine ab 1000 rfl trivial ?_
        refine S_guard rfl rfl rfl rfl (fun h => by cases h) (fun _ => ?_)
        refine ab 1000 rfl trivial ?_
        refine S_guard rfl rfl rfl rfl (fun h => by cases h) (fun _ => ?_)
        refine ab 1000 rfl trivial ?_
        refine S_retc .bool rfl trivial ?_
        rw [isName, hN, decide_eq_false (p := 1 ≤ s.length) (by omega)]; rfl
end Go.Proofs.Ytjaflkgfipaajaa
end
section
set_option linter.unusedVariables false
set_option linter.unusedSimpArgs false
set_option maxRecDepth 20000
set_option maxHeartbeats 2000000
namespace Go.Proofs.Ytjaflkgfipaajaa
open Go Go.Ab
def addJ : List QT → QJ → List QT
  | [], j => [⟨j.ten, 0, false, [j]⟩]
  | t :: r, j => if (t.num == j.ten) = true then ⟨t.num, t.cred, t.turn, t.jobs ++ [j]⟩ :: r else t :: addJ r j
def moreJ (t : QT) (j : QJ) : QT := ⟨t.num, t.cred, t.turn, t.jobs ++ [j]⟩
theorem addJ_at {j : QJ} : ∀ {ring : List QT} {i : Nat} (hi : i < ring.length), ring.findIdx? (fun t => t.num == j.ten) = some i → addJ ring j = ring.set i (moreJ ring[i] j)
  | [], i, hi, _ => by cases hi
  | t :: r, i, hi, h => by
    rw [List.findIdx?_cons] at h
    rw [addJ]
    cases hb : t.num == j.ten with
    | true =>
      rw [hb] at h
      cases h
      rw [if_pos rfl]; rfl
    | false =>
      rw [hb] at h
      simp only [Bool.false_eq_true, if_false, Option.map_eq_some_iff] at h
      obtain ⟨i', h1, rfl⟩ := h
      rw [if_neg (by simp), addJ_at (Nat.lt_of_succ_lt_succ hi) h1]
      rfl
theorem addJ_no {j : QJ} : ∀ {ring : List QT}, ring.findIdx? (fun t => t.num == j.ten) = none → addJ ring j = ring ++ [⟨j.ten, 0, false, [j]⟩]
  | [], _ => rfl
  | t :: r, h => by
    rw [List.findIdx?_cons] at h
    rw [addJ]
    cases hb : t.num == j.ten with
    | true => rw [hb] at h; cases h
    | false =>
      rw [hb] at h
      simp only [Bool.false_eq_true, if_false, Option.map_eq_none_iff] at h
      rw [if_neg (by simp), addJ_no h]
      rfl
def putE (ring : List QT) (j : QJ) : Nat :=
  if j.ten < 1 ∨ j.ten > 20 ∨ j.cost < 1 ∨ j.cost > 1000 then 3 else if isName j.name = false then 1 else if (fndQ ring j.name).isSome = true then 6 else if manyQ ring = 200 then 2 else 0
theorem many_set {t : QT} : ∀ {ring : List QT} {i : Nat} (hi : i < ring.length), manyQ (ring.set i t) + ring[i].jobs.length = manyQ ring + t.jobs.length
  | [], i, hi => by cases hi
  | x :: r, 0, hi => by simp only [List.set_cons_zero, manyQ, List.getElem_cons_zero]; omega
  | x :: r, i + 1, hi => by
    have := many_set (t := t) (ring := r) (i := i) (Nat.lt_of_succ_lt_succ hi)
    simp only [List.set_cons_succ, manyQ, List.getElem_cons_succ]; omega
theorem many_app (a b : List QT) : manyQ (a ++ b) = manyQ a + manyQ b := by
  induction a with
  | nil => simp [manyQ]
  | cons x r ih => rw [List.cons_append, manyQ, manyQ, ih]; omega
theorem many_at {ring : List QT} {i : Nat} (hi : i < ring.length) : ring[i].jobs.length ≤ manyQ ring := by
  induction ring generalizing i with
  | nil => cases hi
  | cons x r ih =>
    cases i with
    | zero => simp only [List.getElem_cons_zero, manyQ]; omega
    | succ i => have := ih (Nat.lt_of_succ_lt_succ hi); simp only [List.getElem_cons_succ, manyQ]; omega
theorem QAt.lt {σ : Heap} {q rid rv : Nat} {es : List QL} {quan : Int} {ring : List QT} (h : QAt σ q rid rv es quan ring) : ∀ id, Own q rid es id → id < σ.length := by
  rintro id (rfl | rfl | ⟨e, he, hid⟩)
  · exact lt_of_get h.qb
  · exact lt_of_get h.rb
  · obtain ⟨i, hi, rfl⟩ := List.getElem_of_mem he
    obtain ⟨k1, k2⟩ := h.tn.get i hi (by have := h.tn.len; omega)
    rcases hid with rfl | rfl
    · exact lt_of_get k1
    · exact lt_of_get k2
theorem QAt.jobs {σ : Heap} {q rid rv : Nat} {es : List QL} {quan : Int} {ring : List QT} (h : QAt σ q rid rv es quan ring) {i : Nat} (hi : i < es.length) (hi2 : i < ring.length) (t' : QT) (jv' : Nat) :
    QAt (((σ.set es[i].jid (jv', some (.cells (jbC t'.jobs) ⟨false, none⟩))).set es[i].tid (0, some (tnB t' ⟨es[i].tid, es[i].jid, jv'⟩))).set q (0, some (quB quan rid rv (ring.set i t')))) q rid rv (es.set i ⟨es[i].tid, es[i].jid, jv'⟩) quan (ring.set i t') := by
  obtain ⟨a1, a2, a3, a4, a5⟩ := h.ap.one hi
  obtain ⟨k1, k2⟩ := h.tn.get i hi hi2
  have hqr := h.ap.qr
  refine ⟨((h.al.set _ _ _).set _ _ _).set _ _ _, ?_, ?_, ?_, h.ap.set hi rfl⟩
  · have h1 : ((σ.set es[i].jid (jv', some (.cells (jbC t'.jobs) ⟨false, none⟩))).set es[i].tid (0, some (tnB t' ⟨es[i].tid, es[i].jid, jv'⟩)))[q]? = some (0, some (quB quan rid rv ring)) := by
      rw [set_ne (Ne.symm a1), set_ne (Ne.symm a2)]; exact h.qb
    exact set_eq h1
  · rw [set_ne (Ne.symm hqr), set_ne (Ne.symm a3), set_ne (Ne.symm a4)]
    have hr : rgC (es.set i ⟨es[i].tid, es[i].jid, jv'⟩) = rgC es := by
      unfold rgC
      rw [List.map_set]
      apply List.ext_getElem (by simp)
      intro j h1 h2
      rw [List.getElem_set]
      split
      · rename_i hij; subst hij; simp
      · rfl
    rw [hr]; exact h.rb
  · refine h.tn.put i hi _ _ ?_ ?_ (fun j hj hne => ?_)
    · have h1 : (σ.set es[i].jid (jv', some (.cells (jbC t'.jobs) ⟨false, none⟩)))[es[i].tid]? = some (0, some (tnB ring[i] es[i])) := by rw [set_ne a5]; exact k1
      rw [set_ne a1]; exact set_eq h1
    · show ((_ : Heap).set _ _)[es[i].jid]? = _
      rw [set_ne a2, set_ne (Ne.symm a5)]; exact set_eq k2
    · obtain ⟨b1, b2, b3, b4, b5⟩ := h.ap.one hj
      obtain ⟨c1, c2, c3, c4⟩ := h.ap.two hj hi hne
      have c1 : es[j].tid ≠ es[i].tid := c1
      have c2 : es[j].jid ≠ es[i].jid := c2
      have c3 : es[j].tid ≠ es[i].jid := c3
      have c4 : es[j].jid ≠ es[i].tid := c4
      refine ⟨?_, ?_⟩
      · rw [set_ne b1, set_ne c1, set_ne c3]
      · rw [set_ne b2, set_ne c4, set_ne c2]
theorem QAt.jobsK {σ : Heap} {q rid rv : Nat} {es : List QL} {quan : Int} {ring : List QT} (h : QAt σ q rid rv es quan ring) {i : Nat} (hi : i < es.length) {x y z : Nat × Option Box} {jv' : Nat} :
    QKeep σ (((σ.set es[i].jid x).set es[i].tid y).set q z) (Own q rid es) (Own q rid (es.set i ⟨es[i].tid, es[i].jid, jv'⟩)) := by
  refine ⟨by simp, fun id hid hno => ?_, fun id hid => .inl ?_⟩
  · have h1 : id ≠ q := fun e => hno (.inl e)
    have h2 : id ≠ es[i].tid := fun e => hno (.inr (.inr ⟨_, List.getElem_mem hi, .inl e⟩))
    have h3 : id ≠ es[i].jid := fun e => hno (.inr (.inr ⟨_, List.getElem_mem hi, .inr e⟩))
    rw [set_ne h1, set_ne h2, set_ne h3]
  · rcases hid with h1 | h1 | ⟨e, he, h1⟩
    · exact .inl h1
    · exact .inr (.inl h1)
    · refine .inr (.inr ?_)
      rcases List.mem_or_eq_of_mem_set he with he | rfl
      · exact ⟨e, he, h1⟩
      · exact ⟨_, List.getElem_mem hi, h1⟩
theorem QAt.more {σ : Heap} {q rid rv : Nat} {es : List QL} {quan : Int} {ring : List QT} (h : QAt σ q rid rv es quan ring) (ten : Int) :
    QAt (((((σ ++ [(0, some (Box.cells [.int .i64 ten, .int .i64 0, .bool false, .nils] ⟨false, some 63⟩))]).set rid (rv + 1, some (.cells (rgC es ++ [AV.ptr σ.length 0 0]) ⟨false, none⟩))).set q (0, some (.cells [.int .i64 quan, .ms rid (rv + 1) 0 (ring.length + 1) 1 false, .int .i64 (manyQ ring : Nat)] ⟨false, some 56⟩))) ++ [(0, some (.cells [] ⟨false, none⟩))]).set σ.length (0, some (.cells [.int .i64 ten, .int .i64 0, .bool false, .ms (σ.length + 1) 0 0 0 3 false] ⟨false, some 63⟩)))
      q rid (rv + 1) (es ++ [⟨σ.length, σ.length + 1, 0⟩]) quan (ring ++ [⟨ten, 0, false, []⟩]) := by
  have hq := lt_of_get h.qb
  have hr := lt_of_get h.rb
  have hqr := h.ap.qr
  have hlt : ∀ e ∈ es, e.tid < σ.length ∧ e.jid < σ.length := fun e he => by
    obtain ⟨i, hi, rfl⟩ := List.getElem_of_mem he
    obtain ⟨k1, k2⟩ := h.tn.get i hi (by have := h.tn.len; omega)
    exact ⟨lt_of_get k1, lt_of_get k2⟩
  refine ⟨Alive.set (Alive.app (Alive.set (Alive.set (Alive.app h.al _ _) _ _ _) _ _ _) _ _) _ _ _, ?_, ?_, ?_, h.ap.snoc hq hr hlt (Nat.le_refl _) (Nat.le_succ _) (Nat.ne_of_lt (Nat.lt_succ_self _))⟩
  · rw [set_ne (Nat.ne_of_lt hq)]
    refine app_get ?_
    have h1 : ((σ ++ [(0, some (Box.cells [.int .i64 ten, .int .i64 0, .bool false, .nils] ⟨false, some 63⟩))]).set rid (rv + 1, some (.cells (rgC es ++ [AV.ptr σ.length 0 0]) ⟨false, none⟩)))[q]? = some (0, some (quB quan rid rv ring)) := by
      rw [set_ne hqr]; exact app_get h.qb
    rw [set_eq h1]
    unfold quB
    rw [many_app, List.length_append]
    rfl
  · rw [set_ne (Nat.ne_of_lt hr)]
    refine app_get ?_
    rw [set_ne (Ne.symm hqr), set_eq (app_get h.rb)]
    unfold rgC
    rw [List.map_append]; rfl
  · refine TnAt.snoc (h.tn.keep fun e he => ?_) ?_ ?_
    · obtain ⟨l1, l2⟩ := hlt e he
      obtain ⟨a1, a2, a3, a4, a5⟩ := h.ap.at_ e.ids (List.mem_map_of_mem he)
      have a1 : e.tid ≠ q := a1
      have a2 : e.jid ≠ q := a2
      have a3 : e.tid ≠ rid := a3
      have a4 : e.jid ≠ rid := a4
      refine ⟨?_, ?_⟩
      · rw [set_ne (Nat.ne_of_lt l1), List.getElem?_append_left (by simp; omega), set_ne a1, set_ne a3, List.getElem?_append_left l1]
      · rw [set_ne (Nat.ne_of_lt l2), List.getElem?_append_left (by simp; omega), set_ne a2, set_ne a4, List.getElem?_append_left l2]
    · have : ((((σ ++ [(0, some (Box.cells [.int .i64 ten, .int .i64 0, .bool false, .nils] ⟨false, some 63⟩))]).set rid (rv + 1, some (.cells (rgC es ++ [AV.ptr σ.length 0 0]) ⟨false, none⟩))).set q (0, some (.cells [.int .i64 quan, .ms rid (rv + 1) 0 (ring.length + 1) 1 false, .int .i64 (manyQ ring : Nat)] ⟨false, some 56⟩))) ++ [(0, some (.cells [] ⟨false, none⟩))])[σ.length]? = some (0, some (Box.cells [.int .i64 ten, .int .i64 0, .bool false, .nils] ⟨false, some 63⟩)) := by
        refine app_get ?_
        rw [set_ne (Nat.ne_of_gt hq), set_ne (Nat.ne_of_gt hr)]
        exact app_last
      exact set_eq this
    · show ((_ : Heap).set _ _)[σ.length + 1]? = _
      rw [set_ne (Nat.ne_of_gt (Nat.lt_succ_self _)), List.getElem?_append_right (by simp)]
      simp [jbC]
theorem QAt.moreK {σ : Heap} {q rid : Nat} {es : List QL} {a b c d e : Nat × Option Box} :
    QKeep σ (((((σ ++ [a]).set rid b).set q c) ++ [d]).set σ.length e) (Own q rid es) (Own q rid (es ++ [⟨σ.length, σ.length + 1, 0⟩])) := by
  refine ⟨by simp; omega, fun id hid hno => ?_, fun id hid => ?_⟩
  · have h1 : id ≠ q := fun e => hno (.inl e)
    have h2 : id ≠ rid := fun e => hno (.inr (.inl e))
    rw [set_ne (Nat.ne_of_lt hid), List.getElem?_append_left (by simp; omega), set_ne h1, set_ne h2, List.getElem?_append_left hid]
  · rcases hid with h1 | h1 | ⟨x, hx, h1⟩
    · exact .inl (.inl h1)
    · exact .inl (.inr (.inl h1))
    · rcases List.mem_append.1 hx with hx | hx
      · exact .inl (.inr (.inr ⟨x, hx, h1⟩))
      · rw [List.mem_singleton.1 hx] at h1
        right
        rcases h1 with h1 | h1
        · show σ.length ≤ id; have : id = σ.length := h1; omega
        · show σ.length ≤ id; have : id = σ.length + 1 := h1; omega
theorem Put_ok (σ : Heap) (q rid rv : Nat) (es : List QL) (quan : Int) (ring : List QT) (j : QJ) (h : QAt σ q rid rv es quan ring) (hm : manyQ ring ≤ 200) (hrl : ring.length ≤ 200) (hnl : j.name.length ≤ 1048576) :
    CallOk cx 11 [.ptr q 0 0, jobA j] σ (fun o s => o = .ret (.int .i64 (putE ring j : Nat)) ∧ ∃ rv' es', QAt s q rid rv' es' quan (if putE ring j = 0 then addJ ring j else ring) ∧ QKeep σ s (Own q rid es) (Own q rid es')) :=
  callOk_intro (fun a w => Try.call11 a w) Try.func11 rfl Try.ntmps11 rfl fun B => by
    have h1 := h.app 0 (.cells j.cells ⟨false, some 34⟩)
    have hjb : (σ ++ [(0, some (Box.cells j.cells ⟨false, some 34⟩))])[σ.length]? = some (0, some (.cells j.cells ⟨false, some 34⟩)) := app_last
    generalize hσ1 : σ ++ [(0, some (Box.cells j.cells ⟨false, some 34⟩))] = σ1 at *
    have hbox : ∀ {fr : Fr} {o : Oper} {e : TypeId} {x : Operand}, o.op = .box e x → ev cx fr x = jobA j → tyS cx.P e = some 34 → OpSpec cx 97 fr σ o (.ptr σ.length 0 0) σ1 := fun ho hx hg => by
      rw [← hσ1]; exact OpSpec.boxE (y := jobA j) ho hx rfl hg h.al
    have hk1 : QKeep σ σ1 (Own q rid es) (Own q rid es) := by rw [← hσ1]; exact QKeep.app
    have l0 : ∀ {fr : Fr} {o : Oper} {a : Operand}, o.op = .load 3 a → ev cx fr a = .ptr σ.length 0 0 → OpSpec cx 97 fr σ1 o (.int .i64 j.ten) σ1 := fun ho he => OpSpec.loadP ho rfl rfl he hjb rfl
    have l1 : ∀ {fr : Fr} {o : Oper} {a : Operand}, o.op = .load 9 a → ev cx fr a = .ptr σ.length 0 1 → OpSpec cx 97 fr σ1 o (.str j.name) σ1 := fun ho he => OpSpec.loadP ho rfl rfl he hjb rfl
    have l2 : ∀ {fr : Fr} {o : Oper} {a : Operand}, o.op = .load 3 a → ev cx fr a = .ptr σ.length 0 2 → OpSpec cx 97 fr σ1 o (.int .i64 j.cost) σ1 := fun ho he => OpSpec.loadP ho rfl rfl he hjb rfl
    have herr : ∀ (e : Nat) (s : Heap), putE ring j = e → e ≠ 0 → ∀ {es'}, (∃ rv', QAt s q rid rv' es' quan ring) → QKeep σ s (Own q rid es) (Own q rid es') → Out.ret (.int .i64 (e : Nat)) = .ret (.int .i64 (putE ring j : Nat)) ∧ ∃ rv' es', QAt s q rid rv' es' quan (if putE ring j = 0 then addJ ring j else ring) ∧ QKeep σ s (Own q rid es) (Own q rid es') := fun e s he hne es' ⟨rv', hq⟩ hk => ⟨by rw [he], rv', es', by rw [he, if_neg hne]; exact hq, hk⟩
    by_cases c1 : j.ten < 1
    · have d1 : decide (j.ten < 1) = true := decide_eq_true c1
      refine pao [.f (.ptr σ.length 0 0) (fun _ => σ1), .v (.int .i64 j.ten), .b true, .b true, .b true, .b true] rfl ?_ ?_
      · (repeat' with_reducible apply AllP_cons) <;> try exact aC
        · exact hbox rfl rfl rfl
        · exact l0 rfl rfl
      exact S_ret ⟨_, _, rfl, trivial, herr 3 _ (by unfold putE; rw [if_pos (.inl c1)]) (by decide) ⟨_, h1⟩ hk1⟩
    have d1 : decide (j.ten < 1) = false := decide_eq_false c1
    by_cases c2 : j.ten > 20
    · have d2 : decide (j.ten > 20) = true := decide_eq_true c2
      refine pao [.f (.ptr σ.length 0 0) (fun _ => σ1), .v (.int .i64 j.ten), .b false, .v (.int .i64 j.ten), .b true, .b true, .b true] rfl ?_ ?_
      · (repeat' with_reducible apply AllP_cons) <;> try exact aC
        · exact hbox rfl rfl rfl
        · exact l0 rfl rfl
        · exact l0 rfl rfl
      exact S_ret ⟨_, _, rfl, trivial, herr 3 _ (by unfold putE; rw [if_pos (.inr (.inl c2))]) (by decide) ⟨_, h1⟩ hk1⟩
    have d2 : decide (j.ten > 20) = false := decide_eq_false c2
    by_cases c3 : j.cost < 1
    · have d3 : decide (j.cost < 1) = true := decide_eq_true c3
      refine pao [.f (.ptr σ.length 0 0) (fun _ => σ1), .v (.int .i64 j.ten), .b false, .v (.int .i64 j.ten), .b false, .v (.int .i64 j.cost), .b true, .b true] rfl ?_ ?_
      · (repeat' with_reducible apply AllP_cons) <;> try exact aC
        · exact hbox rfl rfl rfl
        · exact l0 rfl rfl
        · exact l0 rfl rfl
        · exact l2 rfl rfl
      exact S_ret ⟨_, _, rfl, trivial, herr 3 _ (by unfold putE; rw [if_pos (.inr (.inr (.inl c3)))]) (by decide) ⟨_, h1⟩ hk1⟩
    have d3 : decide (j.cost < 1) = false := decide_eq_false c3
    by_cases c4 : j.cost > 1000
    · have d4 : decide (j.cost > 1000) = true := decide_eq_true c4
      refine pao [.f (.ptr σ.length 0 0) (fun _ => σ1), .v (.int .i64 j.ten), .b false, .v (.int .i64 j.ten), .b false, .v (.int .i64 j.cost), .b false, .v (.int .i64 j.cost), .b true] rfl ?_ ?_
      · (repeat' with_reducible apply AllP_cons) <;> try exact aC
        · exact hbox rfl rfl rfl
        · exact l0 rfl rfl
        · exact l0 rfl rfl
        · exact l2 rfl rfl
        · exact l2 rfl rfl
      exact S_ret ⟨_, _, rfl, trivial, herr 3 _ (by unfold putE; rw [if_pos (.inr (.inr (.inr c4)))]) (by decide) ⟨_, h1⟩ hk1⟩
    have d4 : decide (j.cost > 1000) = false := decide_eq_false c4
    have hr0 : ¬ (j.ten < 1 ∨ j.ten > 20 ∨ j.cost < 1 ∨ j.cost > 1000) := fun h => by
      rcases h with h | h | h | h
      · exact c1 h
      · exact c2 h
      · exact c3 h
      · exact c4 h
    have hIN := isName_ok j.name (by omega)
    have hjl : ∀ t ∈ ring, t.jobs.length ≤ 1000000 := fun t ht => by
      obtain ⟨i, hi, rfl⟩ := List.getElem_of_mem ht
      have := many_at hi
      omega
    cases hnm : isName j.name with
    | false =>
      rw [hnm] at hIN
      refine pao [.f (.ptr σ.length 0 0) (fun _ => σ1), .v (.int .i64 j.ten), .b false, .v (.int .i64 j.ten), .b false, .v (.int .i64 j.cost), .b false, .v (.int .i64 j.cost), .b false, .v (.str j.name), .v (.bool false), .b true] rfl ?_ ?_
      · (repeat' with_reducible apply AllP_cons) <;> try exact aC
        · exact hbox rfl rfl rfl
        · exact l0 rfl rfl
        · exact l0 rfl rfl
        · exact l2 rfl rfl
        · exact l2 rfl rfl
        · exact l1 rfl rfl
        · exact ⟨_, hIN, .cons (.refl .str) (.nil _)⟩
      exact S_ret ⟨_, _, rfl, trivial, herr 1 _ (by unfold putE; rw [if_neg hr0, if_pos hnm]) (by decide) ⟨_, h1⟩ hk1⟩
    | true =>
      rw [hnm] at hIN
      refine pao [.f (.ptr σ.length 0 0) (fun _ => σ1), .v (.int .i64 j.ten), .b false, .v (.int .i64 j.ten), .b false, .v (.int .i64 j.cost), .b false, .v (.int .i64 j.cost), .b false, .v (.str j.name), .v (.bool true), .b false, .v (.str j.name)] rfl ?_ ?_
      · (repeat' with_reducible apply AllP_cons) <;> try exact aC
        · exact hbox rfl rfl rfl
        · exact l0 rfl rfl
        · exact l0 rfl rfl
        · exact l2 rfl rfl
        · exact l2 rfl rfl
        · exact l1 rfl rfl
        · exact ⟨_, hIN, .cons (.refl .str) (.nil _)⟩
        · exact l1 rfl rfl
      have hF := find_ok σ1 q rid rv es quan ring j.name h1 (by omega) hjl
      refine S_call rfl rfl rfl hF (fun v' σ' hv => ?_) (fun v' σ' hv => ?_)
      case _ =>
        obtain ⟨e1, τ, hτ, e2⟩ := hv
        cases e1; subst e2
        have h2 : QAt (σ1 ++ τ) q rid rv es quan ring := h1.mono (alive_apps h1.al hτ) fun i y hy => apps_get hy
        have hjb2 : (σ1 ++ τ)[σ.length]? = some (0, some (.cells j.cells ⟨false, some 34⟩)) := apps_get hjb
        have hk2 : QKeep σ (σ1 ++ τ) (Own q rid es) (Own q rid es) := hk1.trans QKeep.app
        generalize hσ2 : σ1 ++ τ = σ2 at *
        cases hfq : fndQ ring j.name with
        | some p =>
          have hfi : fndI ring j.name = (p.1 : Int) := by unfold fndI; rw [hfq]
          have hge : decide (fndI ring j.name ≥ 0) = true := decide_eq_true (by rw [hfi]; omega)
          refine pao [.b true] rfl ?_ ?_
          · (repeat' with_reducible apply AllP_cons) <;> try exact aC
          exact S_ret ⟨_, _, rfl, trivial, herr 6 _ (by unfold putE; rw [if_neg hr0, if_neg (by rw [hnm]; simp), if_pos (by rw [hfq]; rfl)]) (by decide) ⟨_, h2⟩ hk2⟩
        | none =>
          have hfi : fndI ring j.name = -1 := by unfold fndI; rw [hfq]
          have hge : decide (fndI ring j.name ≥ 0) = false := decide_eq_false (by rw [hfi]; decide)
          by_cases hmm : manyQ ring = 200
          · have d5 : (((manyQ ring : Nat) : Int) == 200) = true := by rw [hmm]; rfl
            refine pao [.b false, .v (.int .i64 (manyQ ring : Nat)), .b true] rfl ?_ ?_
            · (repeat' with_reducible apply AllP_cons) <;> try exact aC
              · exact OpSpec.loadP rfl rfl rfl rfl h2.qb rfl
            exact S_ret ⟨_, _, rfl, trivial, herr 2 _ (by unfold putE; rw [if_neg hr0, if_neg (by rw [hnm]; simp), if_neg (by rw [hfq]; simp), if_pos hmm]) (by decide) ⟨_, h2⟩ hk2⟩
          have d5 : (((manyQ ring : Nat) : Int) == 200) = false := by
            have : ((manyQ ring : Nat) : Int) ≠ 200 := by omega
            simpa using this
          have hp0 : putE ring j = 0 := by unfold putE; rw [if_neg hr0, if_neg (by rw [hnm]; simp), if_neg (by rw [hfq]; simp), if_neg hmm]
          have hA := at_ok σ2 q rid rv es quan ring j.ten h2 (by omega)
          have h3 := h2.app 0 (.cells [.int .i64 j.ten] ⟨false, none⟩)
          have hjb3 : (σ2 ++ [(0, some (Box.cells [.int .i64 j.ten] ⟨false, none⟩))])[σ.length]? = some (0, some (.cells j.cells ⟨false, some 34⟩)) := app_get hjb2
          have hk3 : QKeep σ (σ2 ++ [(0, some (Box.cells [.int .i64 j.ten] ⟨false, none⟩))]) (Own q rid es) (Own q rid es) := hk2.trans QKeep.app
          generalize hσ3 : σ2 ++ [(0, some (Box.cells [.int .i64 j.ten] ⟨false, none⟩))] = σ3 at *
          refine pao [.b false, .v (.int .i64 (manyQ ring : Nat)), .b false, .v (.int .i64 j.ten), .f (.int .i64 (atQ ring j.ten)) (fun _ => σ3)] rfl ?_ ?_
          · (repeat' with_reducible apply AllP_cons) <;> try exact aC
            · exact OpSpec.loadP rfl rfl rfl rfl h2.qb rfl
            · exact OpSpec.loadP rfl rfl rfl rfl hjb2 rfl
          refine' S_shareH (ι := Heap × Nat × List QL × List QT × Nat) (fun s => [(0, .ptr q 0 0), (3, .ptr σ.length 0 0), (7, .int .i64 (s.2.2.2.2 : Nat))]) (fun s => s.1)
            (fun s => QAt s.1 q rid s.2.1 s.2.2.1 quan s.2.2.2.1 ∧ QKeep σ s.1 (Own q rid es) (Own q rid s.2.2.1) ∧ s.1[σ.length]? = some (0, some (.cells j.cells ⟨false, some 34⟩)) ∧ manyQ s.2.2.2.1 = manyQ ring ∧ ∃ h : s.2.2.2.2 < s.2.2.2.1.length, s.2.2.2.1.set s.2.2.2.2 (moreJ (s.2.2.2.1[s.2.2.2.2]) j) = addJ ring j) ?main ?rest
          case main =>
            intro hsh
            cases hat : ring.findIdx? (fun t => t.num == j.ten) with
            | some i =>
              have hi : i < ring.length := by
                rw [List.findIdx?_eq_some_iff_getElem] at hat
                exact hat.1
              have ha : atQ ring j.ten = (i : Int) := by unfold atQ; rw [hat]
              rw [ha]
              have d6 : decide ((i : Int) < 0) = false := decide_eq_false (by omega)
              refine pao [.b false] rfl ?_ ?_
              · (repeat' with_reducible apply AllP_cons) <;> try exact aC
              exact hsh (σ3, rv, es, ring, i) _ ⟨h3, hk3, hjb3, rfl, hi, (addJ_at hi hat).symm⟩ (.cons rfl (.cons rfl (.cons rfl (.nil _))))
            | none =>
              have ha : atQ ring j.ten = -1 := by unfold atQ; rw [hat]
              rw [ha]
              refine pao [.b true, .v (.ms rid rv 0 ring.length 1 false)] rfl ?_ ?_
              · (repeat' with_reducible apply AllP_cons) <;> try exact aC
                · exact OpSpec.loadP rfl rfl rfl rfl h3.qb rfl
              have hq3 := lt_of_get h3.qb
              have hr3 := lt_of_get h3.rb
              have hqr := h3.ap.qr
              have hjr : σ.length ≠ rid := by have := lt_of_get h.rb; omega
              refine S_drawY (σ3 ++ [(0, some (Box.cells [.int .i64 j.ten, .int .i64 0, .bool false, .nils] ⟨false, some 63⟩))]) ((σ3 ++ [(0, some (Box.cells [.int .i64 j.ten, .int .i64 0, .bool false, .nils] ⟨false, some 63⟩))]).set rid (rv + 1, some (.cells (rgC es ++ [AV.ptr σ3.length 0 0]) ⟨false, none⟩))) 8 9 10 11
                [.ptr q 0 0, .ptr q 0 0, .ptr q 0 0, .ptr q 0 1, .ms rid rv 0 ring.length 1 false, .ptr σ.length 0 0, .int .i64 j.ten, .agg [.int .i64 j.ten, .int .i64 0, .bool false, .nils], .ptr σ3.length 0 0, .sl true true 1 [.ptr σ3.length 0 0], .ms rid (rv + 1) 0 (ring.length + 1) 1 false] rfl rfl rfl rfl rfl rfl rfl rfl rfl ?_ ?_
              · refine ⟨pureY rfl rfl (fun s => rfl) trivial, pureY rfl rfl (fun s => rfl) trivial, pureY rfl rfl (fun s => rfl) trivial, pureY rfl rfl (fun s => rfl) trivial, ?_, pureY rfl rfl (fun s => rfl) trivial, ?_, pureY rfl rfl (fun s => rfl) trivial, ?_, pureY rfl rfl (fun s => rfl) trivial, ?_, trivial⟩
                · refine specY rfl rfl fun s hs => OpSpec.loadP (id := q) (cs := [.int .i64 quan, .ms rid rv 0 ring.length 1 false, .int .i64 (manyQ ring : Nat)]) (g := ⟨false, some 56⟩) rfl rfl rfl rfl ?_ rfl
                  rcases hs with e | e | e
                  · rw [e]; exact h3.qb
                  · rw [e]; exact app_get h3.qb
                  · rw [e, set_ne hqr]; exact app_get h3.qb
                · refine specY rfl rfl fun s hs => OpSpec.loadP (id := σ.length) (cs := j.cells) (g := ⟨false, some 34⟩) rfl rfl rfl rfl ?_ rfl
                  rcases hs with e | e | e
                  · rw [e]; exact hjb3
                  · rw [e]; exact app_get hjb3
                  · rw [e, set_ne hjr]; exact app_get hjb3
                · exact specC_step rfl rfl (OpSpec.boxE (y := .agg [.int .i64 j.ten, .int .i64 0, .bool false, .nils]) rfl rfl rfl rfl h3.al)
                · refine specC_step rfl rfl (OpSpec.appendX (y := .ptr σ3.length 0 0) (cs := rgC es) (off := 0) rfl rfl rfl rfl rfl (fun z hz => ?_) (app_get h3.rb) ?_ ?_ ?_ rfl)
                  · have hz : z ∈ [AV.ptr σ3.length 0 0] := hz
                    rw [List.mem_singleton.1 hz]; rfl
                  · have := h3.tn.len
                    simp [rgC, this]
                  · show (ring.length + 1) * 8 ≤ 140737488355328
                    omega
                  · omega
              refine pao [.f (.tup []) (fun s => s.set q (0, some (.cells [.int .i64 quan, .ms rid (rv + 1) 0 (ring.length + 1) 1 false, .int .i64 (manyQ ring : Nat)] ⟨false, some 56⟩)))] rfl ?_ ?_
              · (repeat' with_reducible apply AllP_cons) <;> try exact aC
                · refine OpSpec.storeP (id := q) (gT := some 56) (cs := [.int .i64 quan, .ms rid rv 0 ring.length 1 false, .int .i64 (manyQ ring : Nat)]) rfl rfl rfl rfl rfl rfl ?_ (lble rfl) rfl
                  rw [set_ne hqr]; exact app_get h3.qb
              refine S_ghost (id := σ3.length) (gid := σ3.length + 1) (j := 3) (cs := [.int .i64 j.ten, .int .i64 0, .bool false, .nils]) (g := ⟨false, some 63⟩) (cur := 0) 3 ⟨false, none⟩ ?_ rfl ((Alive.alloc (Alive.set (Alive.set (Alive.app h3.al _ _) _ _ _) _ _ _) _).trans (congrArg (fun n : Nat => (n, 0, _)) (by simp))) ?_ ⟨_, _, .inl rfl⟩ ?_
              · rw [set_ne (Nat.ne_of_gt hq3), set_ne (Nat.ne_of_gt hr3)]; exact app_last
              · simp
              have h4 := h3.more j.ten
              have hk4 := hk3.trans (QAt.moreK (σ := σ3) (q := q) (rid := rid) (es := es) (a := (0, some (Box.cells [.int .i64 j.ten, .int .i64 0, .bool false, .nils] ⟨false, some 63⟩))) (b := (rv + 1, some (.cells (rgC es ++ [AV.ptr σ3.length 0 0]) ⟨false, none⟩))) (c := (0, some (.cells [.int .i64 quan, .ms rid (rv + 1) 0 (ring.length + 1) 1 false, .int .i64 (manyQ ring : Nat)] ⟨false, some 56⟩))) (d := (0, some (.cells [] ⟨false, none⟩))) (e := (0, some (.cells [.int .i64 j.ten, .int .i64 0, .bool false, .ms (σ3.length + 1) 0 0 0 3 false] ⟨false, some 63⟩))))
              refine hsh (_, rv + 1, es ++ [⟨σ3.length, σ3.length + 1, 0⟩], ring ++ [⟨j.ten, 0, false, []⟩], ring.length) _ ⟨?_, ?_, ?_, ?_, ?_⟩ ?_
              · exact h4
              · exact hk4
              · have hjq : σ.length ≠ q := by have := lt_of_get h.qb; omega
                have hj3 := lt_of_get hjb3
                show ((_ : Heap).set _ _)[σ.length]? = _
                rw [set_ne (Nat.ne_of_lt hj3)]
                refine app_get ?_
                rw [set_ne hjq, set_ne hjr]
                exact app_get hjb3
              · rw [many_app]; rfl
              · refine ⟨by rw [List.length_append]; exact Nat.lt_succ_self _, ?_⟩
                rw [addJ_no hat, List.set_append_right _ _ (Nat.le_refl _), Nat.sub_self]
                simp [moreJ]
              · exact .cons rfl (.cons rfl (.cons rfl (.nil _)))
          case rest =>
            rintro ⟨σ4, rv4, es4, ring4, i⟩ ⟨h4, hk4, hjb4, hmn4, hi, hset⟩
            simp only at h4 hk4 hjb4 hmn4 hi hset
            have hlen4 := h4.tn.len
            have hie : i < es4.length := by omega
            obtain ⟨k1, k2⟩ := h4.tn.get i hie hi
            obtain ⟨a1, a2, a3, a4, a5⟩ := h4.ap.one hie
            have hfin := h4.jobs hie hi (moreJ ring4[i] j) (es4[i].jv + 1)
            have hfk := hk4.trans (h4.jobsK hie (x := (es4[i].jv + 1, some (Box.cells (jbC (moreJ ring4[i] j).jobs) ⟨false, none⟩))) (y := (0, some (tnB (moreJ ring4[i] j) ⟨es4[i].tid, es4[i].jid, es4[i].jv + 1⟩))) (z := (0, some (quB quan rid rv4 (ring4.set i (moreJ ring4[i] j))))) (jv' := es4[i].jv + 1))
            have hms := many_set (t := moreJ ring4[i] j) hi
            have hml := many_at hi
            have hrx : ((rgC es4).drop (offN 0 (mulN ((i : Int)).toNat 1)))[0]? = some (.ptr es4[i].tid 0 0) := by
              rw [offN_eq, mulN_eq, Int.toNat_natCast, List.getElem?_drop]
              have e : 0 + i * 1 + 0 = i := by omega
              rw [e]
              simp [rgC, hie]
            obtain ⟨J2, hJ2⟩ : ∃ J2 : Nat × Option Box, J2 = (es4[i].jv + 1, some (.cells (jbC (moreJ ring4[i] j).jobs) ⟨false, none⟩)) := ⟨_, rfl⟩
            refine S_drawY σ4 (σ4.set es4[i].jid J2) 17 18 19 20
              [.ptr q 0 0, .ptr q 0 0, .ptr q 0 1, .ms rid rv4 0 ring4.length 1 false, .int .i64 (i : Nat), .eptr rid rv4 (offN 0 (mulN ((i : Int)).toNat 1)), .ptr es4[i].tid 0 0, .ptr q 0 0, .ptr q 0 0, .ptr q 0 1, .ms rid rv4 0 ring4.length 1 false, .int .i64 (i : Nat), .eptr rid rv4 (offN 0 (mulN ((i : Int)).toNat 1)), .ptr es4[i].tid 0 0, .ptr es4[i].tid 0 0, .ptr es4[i].tid 0 3, .ms es4[i].jid es4[i].jv 0 ring4[i].jobs.length 3 false, jobA j, .sl true true 3 [jobA j], .ms es4[i].jid (es4[i].jv + 1) 0 (ring4[i].jobs.length + 1) 3 false] rfl rfl rfl rfl rfl rfl rfl rfl rfl ?_ ?_
            · have hq5 : ∀ s, s = σ4 ∨ s = σ4 ∨ s = σ4.set es4[i].jid J2 → s[q]? = some (0, some (quB quan rid rv4 ring4)) := fun s hs => by
                rcases hs with e | e | e
                · rw [e]; exact h4.qb
                · rw [e]; exact h4.qb
                · rw [e, set_ne (Ne.symm a2)]; exact h4.qb
              have hr5 : ∀ s, s = σ4 ∨ s = σ4 ∨ s = σ4.set es4[i].jid J2 → s[rid]? = some (rv4, some (.cells (rgC es4) ⟨false, none⟩)) := fun s hs => by
                rcases hs with e | e | e
                · rw [e]; exact h4.rb
                · rw [e]; exact h4.rb
                · rw [e, set_ne (Ne.symm a4)]; exact h4.rb
              have ht5 : ∀ s, s = σ4 ∨ s = σ4 ∨ s = σ4.set es4[i].jid J2 → s[es4[i].tid]? = some (0, some (tnB ring4[i] es4[i])) := fun s hs => by
                rcases hs with e | e | e
                · rw [e]; exact k1
                · rw [e]; exact k1
                · rw [e, set_ne a5]; exact k1
              refine ⟨pureY rfl rfl (fun s => rfl) trivial, pureY rfl rfl (fun s => rfl) trivial, pureY rfl rfl (fun s => rfl) trivial, ?_, pureY rfl rfl (fun s => rfl) trivial, ?_, ?_, pureY rfl rfl (fun s => rfl) trivial, pureY rfl rfl (fun s => rfl) trivial, pureY rfl rfl (fun s => rfl) trivial, ?_, pureY rfl rfl (fun s => rfl) trivial, ?_, ?_, pureY rfl rfl (fun s => rfl) trivial, pureY rfl rfl (fun s => rfl) trivial, ?_, ?_, pureY rfl rfl (fun s => rfl) trivial, ?_, trivial⟩
              · exact specY rfl rfl fun s hs => OpSpec.loadP rfl rfl rfl rfl (hq5 s hs) rfl
              · exact idxY (x := .top) rfl rfl (fun s => rfl) (by (repeat' with_reducible apply AllP_cons) <;> try exact aC)
              · exact specY rfl rfl fun s hs => OpSpec.loadE rfl rfl rfl rfl (hr5 s hs) hrx
              · exact specY rfl rfl fun s hs => OpSpec.loadP rfl rfl rfl rfl (hq5 s hs) rfl
              · exact idxY (x := .top) rfl rfl (fun s => rfl) (by (repeat' with_reducible apply AllP_cons) <;> try exact aC)
              · exact specY rfl rfl fun s hs => OpSpec.loadE rfl rfl rfl rfl (hr5 s hs) hrx
              · exact specY rfl rfl fun s hs => OpSpec.loadP rfl rfl rfl rfl (ht5 s hs) rfl
              · exact specC_step rfl rfl (OpSpec.loadPA rfl rfl rfl rfl hjb4 (lble rfl) rfl)
              · refine specC_step rfl rfl (OpSpec.appendX (y := jobA j) (cs := jbC ring4[i].jobs) (off := 0) rfl rfl rfl rfl rfl (fun z hz => ?_) k2 ?_ ?_ ?_ ?_)
                · have hz : z ∈ j.cells ++ [] := hz
                  rw [List.append_nil] at hz
                  exact jbC_one [j] z (by simpa [jbC] using hz)
                · show 0 + ring4[i].jobs.length * 3 = _
                  rw [jbC_len]; omega
                · show (ring4[i].jobs.length + 1) * 32 ≤ 140737488355328
                  omega
                · omega
                · rw [hJ2]
                  show _ = σ4.set es4[i].jid (es4[i].jv + 1, some (Box.cells (jbC ring4[i].jobs ++ (j.cells ++ [])) ⟨false, none⟩))
                  unfold moreJ
                  rw [jbC_app]
                  rfl
            have hjl4 : (moreJ ring4[i] j).jobs.length = ring4[i].jobs.length + 1 := by show (ring4[i].jobs ++ [j]).length = _; rw [List.length_append]; rfl
            have hmw : IntKind.i64.wrap (((manyQ ring4 : Nat) : Int) + 1) = ((manyQ (ring4.set i (moreJ ring4[i] j)) : Nat) : Int) := by
              have : manyQ (ring4.set i (moreJ ring4[i] j)) = manyQ ring4 + 1 := by omega
              rw [this]
              exact w64 (by omega) (by omega)
            refine pao [.f (.tup []) (fun s => s.set es4[i].tid (0, some (tnB (moreJ ring4[i] j) ⟨es4[i].tid, es4[i].jid, es4[i].jv + 1⟩))), .v (.int .i64 (manyQ ring4 : Nat)), .f (.tup []) (fun s => s.set q (0, some (quB quan rid rv4 (ring4.set i (moreJ ring4[i] j)))))] rfl ?_ ?_
            · (repeat' with_reducible apply AllP_cons) <;> try exact aC
              · refine OpSpec.storeP (id := es4[i].tid) (gT := some 63) (cs := [.int .i64 ring4[i].num, .int .i64 ring4[i].cred, .bool ring4[i].turn, .ms es4[i].jid es4[i].jv 0 ring4[i].jobs.length 3 false]) rfl rfl rfl rfl rfl rfl ?_ (lble rfl) ?_
                · rw [set_ne a5]; exact k1
                · unfold tnB
                  rw [hjl4]; rfl
              · refine OpSpec.loadP (id := q) (cs := [.int .i64 quan, .ms rid rv4 0 ring4.length 1 false, .int .i64 (manyQ ring4 : Nat)]) (g := ⟨false, some 56⟩) rfl rfl rfl rfl ?_ rfl
                show ((_ : Heap).set _ _)[q]? = _
                rw [set_ne (Ne.symm a1), set_ne (Ne.symm a2)]; exact h4.qb
              · refine OpSpec.storeP (id := q) (gT := some 56) (cs := [.int .i64 quan, .ms rid rv4 0 ring4.length 1 false, .int .i64 (manyQ ring4 : Nat)]) rfl rfl rfl rfl rfl rfl ?_ (lble rfl) ?_
                · show ((_ : Heap).set _ _)[q]? = _
                  rw [set_ne (Ne.symm a1), set_ne (Ne.symm a2)]; exact h4.qb
                · unfold quB
                  rw [← hmw, List.length_set]; rfl
            refine S_ret ⟨_, _, rfl, trivial, ?_, rv4, es4.set i ⟨es4[i].tid, es4[i].jid, es4[i].jv + 1⟩, ?_, ?_⟩
            · rw [hp0]; rfl
            · rw [hp0, if_pos rfl, ← hset, hJ2]
              exact hfin
            · rw [hJ2]; exact hfk
      case _ =>
        obtain ⟨e1, _⟩ := hv
        cases e1
end Go.Proofs.Ytjaflkgfipaajaa
end
section
set_option linter.unusedVariables false
set_option linter.unusedSimpArgs false
set_option maxRecDepth 20000
set_option maxHeartbeats 2000000
namespace Go.Proofs.Ytjaflkgfipaajaa
open Go Go.Ab
def lessJ (t : QT) (k : Nat) : QT := ⟨t.num, t.cred, t.turn, t.jobs.eraseIdx k⟩
def takR (ring : List QT) (i k : Nat) : List QT := match ring[i]? with
  | none => ring
  | some t => if (t.jobs.eraseIdx k) = [] then ring.eraseIdx i else ring.set i (lessJ t k)
theorem jbC_erase (l : List QJ) {k : Nat} (h : k < l.length) : (jbC l).take (k * 3) ++ (jbC l).drop ((k + 1) * 3) = jbC (l.eraseIdx k) := by
  rw [jbC_take l (by omega), jbC_drop l h, ← jbC_app, List.eraseIdx_eq_take_drop_succ]
theorem many_erase : ∀ {ring : List QT} {i : Nat} (hi : i < ring.length), manyQ (ring.eraseIdx i) + ring[i].jobs.length = manyQ ring
  | [], i, hi => by cases hi
  | x :: r, 0, hi => by simp only [List.eraseIdx_cons_zero, manyQ, List.getElem_cons_zero]; omega
  | x :: r, i + 1, hi => by
    have := many_erase (ring := r) (i := i) (Nat.lt_of_succ_lt_succ hi)
    simp only [List.eraseIdx_cons_succ, manyQ, List.getElem_cons_succ]; omega
theorem QAt.gone {σ : Heap} {q rid rv : Nat} {es : List QL} {quan : Int} {ring : List QT} (h : QAt σ q rid rv es quan ring) {i : Nat} (hi : i < ring.length) (hj : ring[i].jobs = []) :
    QAt ((σ.set rid (rv, some (.cells ((rgC es).take (i * 1) ++ (rgC es).drop ((i + 1) * 1)) ⟨false, none⟩))).set q (0, some (.cells [.int .i64 quan, .ms rid rv 0 (ring.length - 1) 1 false, .int .i64 (manyQ ring : Nat)] ⟨false, some 56⟩))) q rid rv (es.eraseIdx i) quan (ring.eraseIdx i) := by
  have hqr := h.ap.qr
  have hlen := h.tn.len
  refine ⟨Alive.set (Alive.set h.al _ _ _) _ _ _, ?_, ?_, ?_, h.ap.erase i⟩
  · have h1 : (σ.set rid (rv, some (.cells ((rgC es).take (i * 1) ++ (rgC es).drop ((i + 1) * 1)) ⟨false, none⟩)))[q]? = some (0, some (quB quan rid rv ring)) := by rw [set_ne hqr]; exact h.qb
    rw [set_eq h1]
    have hm := many_erase hi
    rw [hj] at hm
    unfold quB
    rw [List.length_eraseIdx_of_lt hi]
    have : manyQ (ring.eraseIdx i) = manyQ ring := by simpa using hm
    rw [this]
  · rw [set_ne (Ne.symm hqr), set_eq h.rb]
    have : rgC (es.eraseIdx i) = (rgC es).take (i * 1) ++ (rgC es).drop ((i + 1) * 1) := by
      unfold rgC
      rw [Nat.mul_one, Nat.mul_one, ← List.map_take, ← List.map_drop, ← List.map_append, List.eraseIdx_eq_take_drop_succ]
    rw [this]
  · refine (h.tn.erase i).keep fun e he => ?_
    have hem : e ∈ es := List.mem_of_mem_eraseIdx he
    obtain ⟨a1, a2, a3, a4, a5⟩ := h.ap.at_ e.ids (List.mem_map_of_mem hem)
    exact ⟨by rw [set_ne (show e.tid ≠ q from a1), set_ne (show e.tid ≠ rid from a3)], by rw [set_ne (show e.jid ≠ q from a2), set_ne (show e.jid ≠ rid from a4)]⟩
theorem QAt.goneK {σ : Heap} {q rid : Nat} {es : List QL} {i : Nat} {x y : Nat × Option Box} : QKeep σ ((σ.set rid x).set q y) (Own q rid es) (Own q rid (es.eraseIdx i)) := by
  refine ⟨by simp, fun id hid hno => ?_, fun id hid => .inl ?_⟩
  · rw [set_ne (fun e => hno (.inl e)), set_ne (fun e => hno (.inr (.inl e)))]
  · rcases hid with h1 | h1 | ⟨e, he, h1⟩
    · exact .inl h1
    · exact .inr (.inl h1)
    · exact .inr (.inr ⟨e, List.mem_of_mem_eraseIdx he, h1⟩)
theorem QAt.keep {σ σ' : Heap} {q rid rv : Nat} {es : List QL} {quan : Int} {ring : List QT} (h : QAt σ q rid rv es quan ring) (ha : Alive σ') (hk : ∀ id, Own q rid es id → σ'[id]? = σ[id]?) : QAt σ' q rid rv es quan ring :=
  ⟨ha, (hk _ (.inl rfl)).trans h.qb, (hk _ (.inr (.inl rfl))).trans h.rb, h.tn.keep fun e he => ⟨hk _ (.inr (.inr ⟨e, he, .inl rfl⟩)), hk _ (.inr (.inr ⟨e, he, .inr rfl⟩))⟩, h.ap⟩
theorem QKeep.set {σ σ' : Heap} {o o' : Nat → Prop} (h : QKeep σ σ' o o') {id : Nat} (hid : σ.length ≤ id) (x : Nat × Option Box) : QKeep σ (σ'.set id x) o o' :=
  ⟨by rw [List.length_set]; exact h.len, fun j hj hno => by rw [set_ne (by omega)]; exact h.same j hj hno, h.new⟩
theorem take_ok (σ : Heap) (q rid rv : Nat) (es : List QL) (quan : Int) (ring : List QT) (i k : Nat) (h : QAt σ q rid rv es quan ring) (hm : manyQ ring ≤ 200) (hrl : ring.length ≤ 200) (hi : i < ring.length) (hk : k < ring[i].jobs.length) :
    CallOk cx 25 [.ptr q 0 0, .int .i64 (i : Nat), .int .i64 (k : Nat)] σ (fun o s => o = .ret (jobA ring[i].jobs[k]) ∧ ∃ es', QAt s q rid rv es' quan (takR ring i k) ∧ QKeep σ s (Own q rid es) (Own q rid es')) :=
  callOk_intro (fun a w => Try.call25 a w) Try.func25 rfl Try.ntmps25 rfl fun B => by
    have hlen := h.tn.len
    have hie : i < es.length := by omega
    obtain ⟨k1, k2⟩ := h.tn.get i hie hi
    obtain ⟨a1, a2, a3, a4, a5⟩ := h.ap.one hie
    have hqr := h.ap.qr
    have hml := many_at hi
    have hrx : ((rgC es).drop (offN 0 (mulN ((i : Int)).toNat 1)))[0]? = some (.ptr es[i].tid 0 0) := by
      rw [offN_eq, mulN_eq, Int.toNat_natCast, List.getElem?_drop]
      have e : 0 + i * 1 + 0 = i := by omega
      rw [e]
      simp [rgC, hie]
    obtain ⟨g1, g2⟩ := jbC_at hk
    have c1 : decide ((i : Int) < (ring.length : Int)) = true := decide_eq_true (by omega)
    obtain ⟨z0, hz0⟩ : ∃ z0 : Nat × Option Box, z0 = (0, some (.cells [.int .i64 0, .str [], .int .i64 0] ⟨false, some 34⟩)) := ⟨_, rfl⟩
    obtain ⟨z1, hz1⟩ : ∃ z1 : Nat × Option Box, z1 = (0, some (.cells (ring[i].jobs[k]).cells ⟨false, some 34⟩)) := ⟨_, rfl⟩
    have h1 : QAt (σ ++ [z0]) q rid rv es quan ring := by rw [hz0]; exact h.app _ _
    have h3 : QAt ((σ ++ [z0]) ++ [z1]) q rid rv es quan ring := by rw [hz1]; exact h1.app _ _
    have hset2 : ((σ ++ [z0]) ++ [z0]).set (σ.length + 1) z1 = (σ ++ [z0]) ++ [z1] := by
      rw [List.set_append_right _ _ (by simp)]
      simp
    obtain ⟨k3, k4⟩ := h3.tn.get i hie hi
    have hq0 := lt_of_get h.qb
    have hr0 := lt_of_get h.rb
    have ht0 := lt_of_get k1
    have hj0 := lt_of_get k2
    have hfin := h3.jobs hie hi (lessJ ring[i] k) es[i].jv
    have hfk := h3.jobsK hie (x := (es[i].jv, some (Box.cells (jbC (lessJ ring[i] k).jobs) ⟨false, none⟩))) (y := (0, some (tnB (lessJ ring[i] k) ⟨es[i].tid, es[i].jid, es[i].jv⟩))) (z := (0, some (quB quan rid rv (ring.set i (lessJ ring[i] k))))) (jv' := es[i].jv)
    have hms := many_set (t := lessJ ring[i] k) hi
    have hll : (lessJ ring[i] k).jobs.length = ring[i].jobs.length - 1 := List.length_eraseIdx_of_lt hk
    have hD := DeleteJ_ok ((σ ++ [z0]) ++ [z1]) es[i].jid es[i].jv ring[i].jobs.length k (jbC ring[i].jobs) false none k4 (jbC_len _) hk (by omega)
    rw [jbC_erase _ hk] at hD
    obtain ⟨J2, hJ2⟩ : ∃ J2 : Nat × Option Box, J2 = (es[i].jv, some (.cells (jbC (lessJ ring[i] k).jobs) ⟨false, none⟩)) := ⟨_, rfl⟩
    obtain ⟨T2, hT2⟩ : ∃ T2 : Nat × Option Box, T2 = (0, some (tnB (lessJ ring[i] k) ⟨es[i].tid, es[i].jid, es[i].jv⟩)) := ⟨_, rfl⟩
    obtain ⟨Q2, hQ2⟩ : ∃ Q2 : Nat × Option Box, Q2 = (0, some (quB quan rid rv (ring.set i (lessJ ring[i] k)))) := ⟨_, rfl⟩
    have hkw : IntKind.i64.wrap ((k : Int) + 1) = ((k + 1 : Nat) : Int) := w64 (by omega) (by omega)
    rw [← hkw] at hD
    have hmw : IntKind.i64.wrap (((manyQ ring : Nat) : Int) - 1) = ((manyQ (ring.set i (lessJ ring[i] k)) : Nat) : Int) := w64 (by omega) (by omega)
    rw [← hJ2, ← hT2, ← hQ2] at hfin hfk
    rw [show (lessJ ring[i] k).jobs = ring[i].jobs.eraseIdx k from rfl] at hJ2
    rw [← hJ2] at hD
    refine pao [.f (.ptr σ.length 0 0) (fun s => s ++ [z0]), .v (.ms rid rv 0 ring.length 1 false), .v .top, .v (.ptr es[i].tid 0 0), .v (.ms es[i].jid es[i].jv 0 ring[i].jobs.length 3 false), .v .top, .v (jobA ring[i].jobs[k]), .f (.ptr (σ.length + 1) 0 0) (fun s => s ++ [z0]), .f (.tup []) (fun _ => (σ ++ [z0]) ++ [z1]),
      .v (.ms es[i].jid es[i].jv 0 ring[i].jobs.length 3 false), .f (.ms es[i].jid es[i].jv 0 (ring[i].jobs.length - 1) 3 false) (fun s => s.set es[i].jid J2), .f (.tup []) (fun s => s.set es[i].tid T2), .v (.int .i64 (manyQ ring : Nat)), .f (.tup []) (fun s => s.set q Q2), .v (.ms es[i].jid es[i].jv 0 (ring[i].jobs.length - 1) 3 false)] rfl ?_ ?_
    · (repeat' with_reducible apply AllP_cons) <;> try exact aC
      · rw [hz0]; exact OpSpec.allocE rfl rfl rfl rfl h.al
      · exact OpSpec.loadP rfl rfl rfl rfl h1.qb rfl
      · exact OpSpec.loadE rfl rfl rfl rfl h1.rb hrx
      · exact OpSpec.loadP rfl rfl rfl rfl (app_get k1) rfl
      · exact OpSpec.loadEA rfl rfl rfl rfl (app_get k2) g2 (by show jobA ring[i].jobs[k] = AV.agg (List.take 3 (List.drop (offN 0 (mulN ((k : Int)).toNat 3)) (jbC ring[i].jobs))); rw [g1]; rfl)
      · have hl1 : (σ ++ [z0]).length = σ.length + 1 := by simp
        have hal : Alive (σ ++ [z0]) := h1.al
        rw [← hl1]
        show OpSpec cx 59 _ (σ ++ [z0]) _ _ ((σ ++ [z0]) ++ [z0])
        generalize σ ++ [z0] = σ5 at *
        rw [hz0]; exact OpSpec.allocE rfl rfl rfl rfl hal
      · refine OpSpec.storeP (id := σ.length + 1) (gT := some 34) (cs := [.int .i64 0, .str [], .int .i64 0]) (y := jobA ring[i].jobs[k]) rfl rfl rfl rfl rfl rfl ?_ (lble rfl) ?_
        · show ((σ ++ [z0]) ++ [z0])[σ.length + 1]? = _
          rw [List.getElem?_append_right (by simp)]
          simp [hz0]
        · rw [← hset2, hz1]; rfl
      · exact OpSpec.loadP rfl rfl rfl rfl k3 rfl
      · refine OpSpec.storeP (id := es[i].tid) (gT := some 63) (cs := [.int .i64 ring[i].num, .int .i64 ring[i].cred, .bool ring[i].turn, .ms es[i].jid es[i].jv 0 ring[i].jobs.length 3 false]) rfl rfl rfl rfl rfl rfl ?_ (lble rfl) ?_
        · show ((_ : Heap).set _ _)[es[i].tid]? = _
          rw [set_ne a5]; exact k3
        · rw [hT2]; unfold tnB; rw [hll]; rfl
      · refine OpSpec.loadP (id := q) (cs := [.int .i64 quan, .ms rid rv 0 ring.length 1 false, .int .i64 (manyQ ring : Nat)]) (g := ⟨false, some 56⟩) rfl rfl rfl rfl ?_ rfl
        show (((_ : Heap).set _ _).set _ _)[q]? = _
        rw [set_ne (Ne.symm a1), set_ne (Ne.symm a2)]; exact h3.qb
      · refine OpSpec.storeP (id := q) (gT := some 56) (cs := [.int .i64 quan, .ms rid rv 0 ring.length 1 false, .int .i64 (manyQ ring : Nat)]) rfl rfl rfl rfl rfl rfl ?_ (lble rfl) ?_
        · show (((_ : Heap).set _ _).set _ _)[q]? = _
          rw [set_ne (Ne.symm a1), set_ne (Ne.symm a2)]; exact h3.qb
        · rw [hQ2]; unfold quB; rw [← hmw, List.length_set]; rfl
      · refine OpSpec.loadP (id := es[i].tid) (cs := [.int .i64 ring[i].num, .int .i64 ring[i].cred, .bool ring[i].turn, .ms es[i].jid es[i].jv 0 (ring[i].jobs.length - 1) 3 false]) (g := ⟨false, some 63⟩) rfl rfl rfl rfl ?_ rfl
        show ((((_ : Heap).set _ _).set _ _).set _ _)[es[i].tid]? = _
        rw [set_ne a1]
        have : (((σ ++ [z0]) ++ [z1]).set es[i].jid J2)[es[i].tid]? = some (0, some (tnB ring[i] es[i])) := by rw [set_ne a5]; exact k3
        rw [set_eq this, hT2]; unfold tnB; rw [hll]; rfl
    have hgz : ring[i]? = some ring[i] := List.getElem?_eq_getElem hi
    have hk0 : QKeep σ ((σ ++ [z0]) ++ [z1]) (Own q rid es) (Own q rid es) := QKeep.app.trans QKeep.app
    have hkk := hk0.trans hfk
    have hz1f : ∀ s : Heap, (∀ id, id < ((σ ++ [z0]) ++ [z1]).length → ¬ Own q rid es id → s[id]? = ((σ ++ [z0]) ++ [z1])[id]?) → s[σ.length]? = some z0 ∧ s[σ.length + 1]? = some z1 := fun s hs => by
      have n0 : ¬ Own q rid es σ.length := fun ho => by have := h.lt _ ho; omega
      have n1 : ¬ Own q rid es (σ.length + 1) := fun ho => by have := h.lt _ ho; omega
      refine ⟨?_, ?_⟩
      · rw [hs _ (by simp) n0]; exact app_get app_last
      · rw [hs _ (by simp) n1, List.getElem?_append_right (by simp)]
        simp
    by_cases hem : ring[i].jobs.eraseIdx k = []
    · have hl0 : ring[i].jobs.length - 1 = 0 := by rw [← hll]; show (ring[i].jobs.eraseIdx k).length = 0; rw [hem]; rfl
      have c5 : (((ring[i].jobs.length - 1 : Nat) : Int) == 0) = true := by rw [hl0]; rfl
      obtain ⟨σF, hσF⟩ : ∃ σF, σF = ((((σ ++ [z0]) ++ [z1]).set es[i].jid J2).set es[i].tid T2).set q Q2 := ⟨_, rfl⟩
      rw [← hσF] at hfin hfk hkk
      refine S_heap σF hσF.symm ?_
      have hn0 : ¬ Own q rid (es.set i ⟨es[i].tid, es[i].jid, es[i].jv⟩) σ.length := fun ho => by
        rcases hkk.new _ ho with h' | h'
        · have := h.lt _ h'; omega
        · rcases hfk.new _ ho with h' | h'
          · have := h.lt _ h'; omega
          · simp at h'; omega
      obtain ⟨w0, w1⟩ := hz1f σF fun id hid hno => hfk.same id hid hno
      have hi' : i < (ring.set i (lessJ ring[i] k)).length := by simpa using hi
      have hgj : (ring.set i (lessJ ring[i] k))[i].jobs = [] := by simp only [List.getElem_set_self]; exact hem
      have hgone := hfin.gone hi' hgj
      have hgk := hkk.trans (QAt.goneK (σ := σF) (q := q) (rid := rid) (es := es.set i ⟨es[i].tid, es[i].jid, es[i].jv⟩) (i := i) (x := (rv, some (.cells ((rgC (es.set i ⟨es[i].tid, es[i].jid, es[i].jv⟩)).take (i * 1) ++ (rgC (es.set i ⟨es[i].tid, es[i].jid, es[i].jv⟩)).drop ((i + 1) * 1)) ⟨false, none⟩))) (y := (0, some (.cells [.int .i64 quan, .ms rid rv 0 ((ring.set i (lessJ ring[i] k)).length - 1) 1 false, .int .i64 (manyQ (ring.set i (lessJ ring[i] k)) : Nat)] ⟨false, some 56⟩))))
      have hDT := DeleteT_ok σF rid rv (ring.set i (lessJ ring[i] k)).length i (rgC (es.set i ⟨es[i].tid, es[i].jid, es[i].jv⟩)) false none hfin.rb (by simp [rgC, hlen]) hi' (by simpa using (show ring.length ≤ 1000000000 by omega))
      have hiw : IntKind.i64.wrap ((i : Int) + 1) = ((i + 1 : Nat) : Int) := w64 (by omega) (by omega)
      rw [← hiw] at hDT
      obtain ⟨R2, hR2⟩ : ∃ R2 : Nat × Option Box, R2 = (rv, some (.cells ((rgC (es.set i ⟨es[i].tid, es[i].jid, es[i].jv⟩)).take (i * 1) ++ (rgC (es.set i ⟨es[i].tid, es[i].jid, es[i].jv⟩)).drop ((i + 1) * 1)) ⟨false, none⟩)) := ⟨_, rfl⟩
      obtain ⟨Q3, hQ3⟩ : ∃ Q3 : Nat × Option Box, Q3 = (0, some (.cells [.int .i64 quan, .ms rid rv 0 ((ring.set i (lessJ ring[i] k)).length - 1) 1 false, .int .i64 (manyQ (ring.set i (lessJ ring[i] k)) : Nat)] ⟨false, some 56⟩)) := ⟨_, rfl⟩
      rw [← hR2] at hDT hgone hgk
      rw [← hQ3] at hgone hgk
      have hqb := hfin.qb
      generalize hrn : ring.set i (lessJ ring[i] k) = ring' at *
      have hn0q : σ.length ≠ q := by omega
      have hn0r : σ.length ≠ rid := by omega
      have hn1q : σ.length + 1 ≠ q := by omega
      have hn1r : σ.length + 1 ≠ rid := by omega
      refine pao [.b true, .v (.ms rid rv 0 ring'.length 1 false), .f (.ms rid rv 0 (ring'.length - 1) 1 false) (fun s => s.set rid R2), .f (.tup []) (fun s => s.set q Q3), .v (jobA ring[i].jobs[k]), .f (.tup []) (fun s => s.set σ.length z1)] rfl ?_ ?_
      · (repeat' with_reducible apply AllP_cons) <;> try exact aC
        · exact OpSpec.loadP rfl rfl rfl rfl hqb rfl
        · refine OpSpec.storeP (id := q) (gT := some 56) (cs := [.int .i64 quan, .ms rid rv 0 ring'.length 1 false, .int .i64 (manyQ ring' : Nat)]) rfl rfl rfl rfl rfl rfl ?_ (lble rfl) ?_
          · show ((_ : Heap).set _ _)[q]? = _
            rw [set_ne hqr]; exact hqb
          · rw [hQ3]; rfl
        · refine OpSpec.loadPA (id := σ.length + 1) (cs := (ring[i].jobs[k]).cells) (g := ⟨false, some 34⟩) rfl rfl rfl rfl ?_ (lble rfl) rfl
          show (((_ : Heap).set _ _).set _ _)[σ.length + 1]? = _
          rw [set_ne hn1q, set_ne hn1r, w1, hz1]
        · refine OpSpec.storeP (id := σ.length) (gT := some 34) (cs := [.int .i64 0, .str [], .int .i64 0]) (y := jobA ring[i].jobs[k]) rfl rfl rfl rfl rfl rfl ?_ (lble rfl) ?_
          · show (((_ : Heap).set _ _).set _ _)[σ.length]? = _
            rw [set_ne hn0q, set_ne hn0r, w0, hz0]
          · rw [hz1]; rfl
      have hw : ((σF.set rid R2).set q Q3)[σ.length]? = some z0 := by rw [set_ne hn0q, set_ne hn0r, w0]
      refine S_ret (ret_c1 (id := σ.length) (off := 0) (cur := 0) (cs := (ring[i].jobs[k]).cells) (g := ⟨false, some 34⟩) rfl rfl ?_ rfl ⟨rfl, (es.set i ⟨es[i].tid, es[i].jid, es[i].jv⟩).eraseIdx i, ?_, ?_⟩)
      · show ((_ : Heap).set _ _)[σ.length]? = _
        rw [set_eq hw, hz1]
      · have ht : takR ring i k = ring'.eraseIdx i := by
          unfold takR
          rw [hgz]
          simp only [hem, if_true]
          rw [← hrn, List.eraseIdx_set_eq]
        rw [ht]
        refine hgone.keep (Alive.set' hgone.al (by rw [hz1]; exact ⟨_, rfl⟩) _) fun id ho => ?_
        have : id ≠ σ.length := fun e => by
          subst e
          rcases ho with h' | h' | ⟨e, he, h'⟩
          · exact hn0 (.inl h')
          · exact hn0 (.inr (.inl h'))
          · exact hn0 (.inr (.inr ⟨e, List.mem_of_mem_eraseIdx he, h'⟩))
        exact set_ne this
      · exact hgk.set (Nat.le_refl _) _
    · have hl0 : ring[i].jobs.length - 1 ≠ 0 := fun e => hem (List.eq_nil_of_length_eq_zero (by rw [← hll] at e; exact e))
      have c5 : (((ring[i].jobs.length - 1 : Nat) : Int) == 0) = false := by
        have : ((ring[i].jobs.length - 1 : Nat) : Int) ≠ 0 := by omega
        simpa using this
      obtain ⟨σF, hσF⟩ : ∃ σF, σF = ((((σ ++ [z0]) ++ [z1]).set es[i].jid J2).set es[i].tid T2).set q Q2 := ⟨_, rfl⟩
      rw [← hσF] at hfin hfk hkk
      refine S_heap σF hσF.symm ?_
      have hn0 : ¬ Own q rid (es.set i ⟨es[i].tid, es[i].jid, es[i].jv⟩) σ.length := fun ho => by
        rcases hfk.new _ ho with h' | h'
        · have := h.lt _ h'; omega
        · simp at h'; omega
      obtain ⟨w0, w1⟩ := hz1f σF fun id hid hno => hfk.same id hid hno
      refine pao [.b false, .v (jobA ring[i].jobs[k]), .f (.tup []) (fun s => s.set σ.length z1)] rfl ?_ ?_
      · (repeat' with_reducible apply AllP_cons) <;> try exact aC
        · refine OpSpec.loadPA (id := σ.length + 1) (cs := (ring[i].jobs[k]).cells) (g := ⟨false, some 34⟩) rfl rfl rfl rfl ?_ (lble rfl) rfl
          rw [w1, hz1]
        · refine OpSpec.storeP (id := σ.length) (gT := some 34) (cs := [.int .i64 0, .str [], .int .i64 0]) (y := jobA ring[i].jobs[k]) rfl rfl rfl rfl rfl rfl ?_ (lble rfl) ?_
          · rw [w0, hz0]
          · rw [hz1]; rfl
      refine S_ret (ret_c1 (id := σ.length) (off := 0) (cur := 0) (cs := (ring[i].jobs[k]).cells) (g := ⟨false, some 34⟩) rfl rfl ?_ rfl ⟨rfl, es.set i ⟨es[i].tid, es[i].jid, es[i].jv⟩, ?_, ?_⟩)
      · show ((_ : Heap).set _ _)[σ.length]? = _
        rw [set_eq w0, hz1]
      · have ht : takR ring i k = ring.set i (lessJ ring[i] k) := by
          unfold takR
          rw [hgz]
          simp only [if_neg hem]
        rw [ht]
        refine hfin.keep (Alive.set' hfin.al (by rw [hz1]; exact ⟨_, rfl⟩) _) fun id ho => ?_
        exact set_ne fun e => hn0 (e ▸ ho)
      · exact hkk.set (Nat.le_refl _) _
end Go.Proofs.Ytjaflkgfipaajaa
end
section
set_option linter.unusedVariables false
set_option linter.unusedSimpArgs false
set_option maxRecDepth 20000
set_option maxHeartbeats 2000000
namespace Go.Proofs.Ytjaflkgfipaajaa
open Go Go.Ab
def nxtF : Nat → Int → List QT → Option QJ × List QT
  | 0, _, ring => (none, ring)
  | _ + 1, _, [] => (none, [])
  | f + 1, quan, t :: r => match t.jobs with
    | [] => (none, t :: r)
    | j :: _ => if j.cost ≤ (if t.turn = true then t.cred else t.cred + quan) then (some j, takR (⟨t.num, (if t.turn = true then t.cred else t.cred + quan) - j.cost, true, t.jobs⟩ :: r) 0 0)
      else nxtF f quan (r ++ [⟨t.num, (if t.turn = true then t.cred else t.cred + quan), false, t.jobs⟩])
def costQ (t : QT) : Int := match t.jobs with | [] => 0 | j :: _ => j.cost
def farQ : List QT → Nat
  | [] => 0
  | t :: r => (costQ t - t.cred).toNat + farQ r
def mQ (ring : List QT) : Nat := 2 * farQ ring + match ring with | [] => 0 | t :: _ => if t.turn = true then 1 else 0
structure QOk (quan : Int) (ring : List QT) : Prop where
  q1 : 1 ≤ quan ∧ quan ≤ 1000
  ne : ∀ t ∈ ring, t.jobs ≠ []
  cr : ∀ t ∈ ring, 0 ≤ t.cred ∧ t.cred ≤ 1999 ∧ (t.turn = false → t.cred ≤ 999)
  co : ∀ t ∈ ring, ∀ j ∈ t.jobs, 1 ≤ j.cost ∧ j.cost ≤ 1000
  tl : ∀ t ∈ ring.tail, t.turn = false
  mn : manyQ ring ≤ 200
theorem QOk.len {quan : Int} {ring : List QT} (h : QOk quan ring) : ring.length ≤ 200 := by
  have : ∀ l : List QT, (∀ t ∈ l, t.jobs ≠ []) → l.length ≤ manyQ l := by
    intro l
    induction l with
    | nil => intro _; exact Nat.le_refl _
    | cons x r ih =>
      intro hl
      have h1 := ih fun t ht => hl t (List.mem_cons_of_mem _ ht)
      have h2 := List.length_pos_iff.2 (hl x (List.mem_cons_self ..))
      rw [List.length_cons, manyQ]; omega
  have := this ring h.ne
  have := h.mn
  omega
theorem far_app (a b : List QT) : farQ (a ++ b) = farQ a + farQ b := by
  induction a with
  | nil => simp [farQ]
  | cons x r ih => rw [List.cons_append, farQ, farQ, ih]; omega
def turned (quan : Int) (t : QT) : QT := ⟨t.num, if t.turn = true then t.cred else t.cred + quan, true, t.jobs⟩
def rested (quan : Int) (t : QT) : QT := ⟨t.num, if t.turn = true then t.cred else t.cred + quan, false, t.jobs⟩
theorem QOk.rot {quan : Int} {t : QT} {r : List QT} {j : QJ} {js : List QJ} (h : QOk quan (t :: r)) (hj : t.jobs = j :: js) (hc : ¬ j.cost ≤ (if t.turn = true then t.cred else t.cred + quan)) : QOk quan (r ++ [rested quan t]) ∧ mQ (r ++ [rested quan t]) < mQ (t :: r) := by
  obtain ⟨c1, c2, c3⟩ := h.cr t (List.mem_cons_self ..)
  obtain ⟨d1, d2⟩ := h.co t (List.mem_cons_self ..) j (by rw [hj]; exact List.mem_cons_self ..)
  have hq := h.q1
  have htl : ∀ x ∈ r, x.turn = false := fun x hx => h.tl x hx
  refine ⟨⟨h.q1, fun x hx => ?_, fun x hx => ?_, fun x hx => ?_, fun x hx => ?_, ?_⟩, ?_⟩
  · rcases List.mem_append.1 hx with hx | hx
    · exact h.ne x (List.mem_cons_of_mem _ hx)
    · rw [List.mem_singleton.1 hx]; exact h.ne t (List.mem_cons_self ..)
  · rcases List.mem_append.1 hx with hx | hx
    · exact h.cr x (List.mem_cons_of_mem _ hx)
    · rw [List.mem_singleton.1 hx]
      show 0 ≤ (if t.turn = true then t.cred else t.cred + quan) ∧ (if t.turn = true then t.cred else t.cred + quan) ≤ 1999 ∧ (_ → (if t.turn = true then t.cred else t.cred + quan) ≤ 999)
      split at hc <;> rename_i ht
      · simp only [if_pos ht]; omega
      · simp only [if_neg ht]; omega
  · rcases List.mem_append.1 hx with hx | hx
    · exact h.co x (List.mem_cons_of_mem _ hx)
    · rw [List.mem_singleton.1 hx]; exact h.co t (List.mem_cons_self ..)
  · have hx := List.mem_of_mem_tail hx
    rcases List.mem_append.1 hx with hx | hx
    · exact htl x hx
    · rw [List.mem_singleton.1 hx]; rfl
  · have := h.mn
    rw [many_app]
    rw [manyQ] at this
    show manyQ r + (t.jobs.length + 0) ≤ 200
    omega
  · have hco : costQ t = j.cost := by unfold costQ; rw [hj]
    have hco2 : costQ (rested quan t) = j.cost := by unfold costQ rested; rw [hj]
    have hht : (match r ++ [rested quan t] with | [] => 0 | x :: _ => if x.turn = true then 1 else 0) = 0 := by
      cases r with
      | nil => rfl
      | cons x r' => show (if x.turn = true then 1 else 0) = 0; rw [htl x (List.mem_cons_self ..)]; rfl
    unfold mQ
    rw [hht, far_app, farQ, farQ, farQ, hco, hco2]
    show 2 * (farQ r + ((j.cost - (if t.turn = true then t.cred else t.cred + quan)).toNat + 0)) + 0 < 2 * ((j.cost - t.cred).toNat + farQ r) + if t.turn = true then 1 else 0
    split at hc <;> rename_i ht
    · simp only [if_pos ht]; omega
    · simp only [if_neg ht]; omega
def nxtQ (quan : Int) (ring : List QT) : Option QJ × List QT := nxtF (mQ ring + 1) quan ring
theorem QAt.cred {σ : Heap} {q rid rv : Nat} {es : List QL} {quan : Int} {ring : List QT} (h : QAt σ q rid rv es quan ring) {i : Nat} (hi : i < es.length) (hi2 : i < ring.length) (t' : QT) (hj : t'.jobs = ring[i].jobs) :
    QAt (σ.set es[i].tid (0, some (tnB t' es[i]))) q rid rv es quan (ring.set i t') := by
  obtain ⟨a1, a2, a3, a4, a5⟩ := h.ap.one hi
  obtain ⟨k1, k2⟩ := h.tn.get i hi hi2
  have hm := many_set (t := t') hi2
  rw [hj] at hm
  refine ⟨Alive.set h.al _ _ _, ?_, ?_, ?_, h.ap⟩
  · rw [set_ne (Ne.symm a1), h.qb]
    unfold quB
    rw [List.length_set, show manyQ (ring.set i t') = manyQ ring by omega]
  · rw [set_ne (Ne.symm a3)]; exact h.rb
  · have hself : es.set i es[i] = es := List.set_getElem_self hi
    have := h.tn.put (σ' := σ.set es[i].tid (0, some (tnB t' es[i]))) i hi es[i] t' (set_eq k1) (by rw [set_ne (Ne.symm a5), hj]; exact k2) (fun j hj hne => by
      obtain ⟨c1, c2, c3, c4⟩ := h.ap.two hj hi hne
      exact ⟨set_ne c1, set_ne c4⟩)
    rw [hself] at this
    exact this
theorem QAt.credK {σ : Heap} {q rid : Nat} {es : List QL} {i : Nat} (hi : i < es.length) {x : Nat × Option Box} : QKeep σ (σ.set es[i].tid x) (Own q rid es) (Own q rid es) :=
  ⟨by simp, fun id hid hno => set_ne fun e => hno (.inr (.inr ⟨_, List.getElem_mem hi, .inl e⟩)), fun id h => .inl h⟩
theorem QAt.rot {σ : Heap} {q rid rv : Nat} {e : QL} {es : List QL} {quan : Int} {t : QT} {r : List QT} (h : QAt σ q rid rv (e :: es) quan (t :: r)) :
    QAt ((σ.set rid (rv + 1, some (.cells ((rgC (e :: es)).drop 1 ++ [AV.ptr e.tid 0 0]) ⟨false, none⟩))).set q (0, some (quB quan rid (rv + 1) (t :: r)))) q rid (rv + 1) (es ++ [e]) quan (r ++ [t]) := by
  have hqr := h.ap.qr
  refine ⟨Alive.set (Alive.set h.al _ _ _) _ _ _, ?_, ?_, ?_, h.ap.rot⟩
  · have h1 : (σ.set rid (rv + 1, some (.cells ((rgC (e :: es)).drop 1 ++ [AV.ptr e.tid 0 0]) ⟨false, none⟩)))[q]? = some (0, some (quB quan rid rv (t :: r))) := by rw [set_ne hqr]; exact h.qb
    rw [set_eq h1]
    unfold quB
    rw [many_app, manyQ, manyQ, manyQ, List.length_append, List.length_cons]
    rw [show manyQ r + (t.jobs.length + 0) = t.jobs.length + manyQ r by omega]
    rfl
  · rw [set_ne (Ne.symm hqr), set_eq h.rb]
    unfold rgC
    rw [List.map_append]; rfl
  · cases h.tn with
    | cons h1 h2 h3 =>
      refine (h3.snoc h1 h2).keep fun x hx => ?_
      have hxm : x ∈ e :: es := by
        rcases List.mem_append.1 hx with hx | hx
        · exact List.mem_cons_of_mem _ hx
        · rw [List.mem_singleton.1 hx]; exact List.mem_cons_self ..
      obtain ⟨a1, a2, a3, a4, a5⟩ := h.ap.at_ x.ids (List.mem_map_of_mem hxm)
      exact ⟨by rw [set_ne (show x.tid ≠ q from a1), set_ne (show x.tid ≠ rid from a3)], by rw [set_ne (show x.jid ≠ q from a2), set_ne (show x.jid ≠ rid from a4)]⟩
theorem QAt.rotK {σ : Heap} {q rid : Nat} {e : QL} {es : List QL} {x y : Nat × Option Box} : QKeep σ ((σ.set rid x).set q y) (Own q rid (e :: es)) (Own q rid (es ++ [e])) := by
  refine ⟨by simp, fun id hid hno => ?_, fun id hid => .inl ?_⟩
  · rw [set_ne (fun e => hno (.inl e)), set_ne (fun e => hno (.inr (.inl e)))]
  · rcases hid with h1 | h1 | ⟨z, hz, h1⟩
    · exact .inl h1
    · exact .inr (.inl h1)
    · refine .inr (.inr ⟨z, ?_, h1⟩)
      rcases List.mem_append.1 hz with hz | hz
      · exact List.mem_cons_of_mem _ hz
      · rw [List.mem_singleton.1 hz]; exact List.mem_cons_self ..
end Go.Proofs.Ytjaflkgfipaajaa
end
section
set_option linter.unusedVariables false
set_option linter.unusedSimpArgs false
set_option maxRecDepth 20000
set_option maxHeartbeats 2000000
namespace Go.Proofs.Ytjaflkgfipaajaa
open Go Go.Ab
def job0 : QJ := ⟨0, [], 0⟩
def nxA (p : Option QJ × List QT) : AV := match p.1 with | some j => .tup [jobA j, .bool true] | none => .tup [jobA job0, .bool false]
theorem Next_ok (σ : Heap) (q rid rv : Nat) (es : List QL) (quan : Int) (ring : List QT) (h : QAt σ q rid rv es quan ring) (hok : QOk quan ring) :
    CallOk cx 12 [.ptr q 0 0] σ (fun o s => o = .ret (nxA (nxtQ quan ring)) ∧ ∃ rv' es', QAt s q rid rv' es' quan (nxtQ quan ring).2 ∧ QKeep σ s (Own q rid es) (Own q rid es')) :=
  callOk_intro (fun a w => Try.call12 a w) Try.func12 rfl Try.ntmps12 rfl fun B => by
    obtain ⟨z0, hz0⟩ : ∃ z0 : Nat × Option Box, z0 = (0, some (.cells [.int .i64 0, .str [], .int .i64 0] ⟨false, some 34⟩)) := ⟨_, rfl⟩
    have h1 : QAt (σ ++ [z0]) q rid rv es quan ring := by rw [hz0]; exact h.app _ _
    refine pao [.f (.ptr σ.length 0 0) (fun s => s ++ [z0])] rfl ?_ ?_
    · (repeat' with_reducible apply AllP_cons) <;> try exact aC
      · rw [hz0]; exact OpSpec.allocE rfl rfl rfl rfl h.al
    have hq0 := lt_of_get h.qb
    have hr0 := lt_of_get h.rb
    have hqr := h.ap.qr
    refine S_while (α := Heap × Nat × List QL × List QT) (fun _ => [(0, .ptr q 0 0), (2, .ptr σ.length 0 0)]) (fun s => s.1)
      (fun s => QAt s.1 q rid s.2.1 s.2.2.1 quan s.2.2.2 ∧ QKeep σ s.1 (Own q rid es) (Own q rid s.2.2.1) ∧ s.1[σ.length]? = some z0 ∧ ¬ Own q rid s.2.2.1 σ.length ∧ QOk quan s.2.2.2 ∧ ∃ f, mQ s.2.2.2 < f ∧ nxtF f quan s.2.2.2 = nxtQ quan ring) (fun s => mQ s.2.2.2) (σ ++ [z0], rv, es, ring)
      ⟨h1, QKeep.app, app_last, (fun ho => by have := h.lt _ ho; omega), hok, mQ ring + 1, Nat.lt_succ_self _, rfl⟩ (.cons rfl (.cons rfl (.nil _))) rfl ?_
    rintro ⟨σ2, rv2, es2, ring2⟩ ⟨h2, hk2, hz2, hn2, hok2, f, hf, hnf⟩
    simp only at h2 hk2 hz2 hn2 hok2 hf hnf
    obtain ⟨f, rfl⟩ : ∃ g, f = g + 1 := ⟨f - 1, by omega⟩
    cases ring2 with
    | nil =>
      have c1 : decide ((((([] : List QT).length) : Nat) : Int) > 0) = false := rfl
      refine pao [.v (.ms rid rv2 0 ([] : List QT).length 1 false), .b false, .f (.tup []) (fun s => s.set σ.length z0)] rfl ?_ ?_
      · (repeat' with_reducible apply AllP_cons) <;> try exact aC
        · exact OpSpec.loadP rfl rfl rfl rfl h2.qb rfl
        · refine OpSpec.storeP (id := σ.length) (gT := some 34) (cs := [.int .i64 0, .str [], .int .i64 0]) (y := .agg [.int .i64 0, .str [], .int .i64 0]) rfl rfl rfl rfl rfl rfl ?_ (lble rfl) ?_
          · rw [hz2, hz0]
          · rw [hz0]; rfl
      have hnx : nxtQ quan ring = (none, []) := by rw [← hnf]; rfl
      rw [hnx]
      refine S_ret (ret_c2 (id := σ.length) (off := 0) (cur := 0) (cs := [.int .i64 0, .str [], .int .i64 0]) (g := ⟨false, some 34⟩) rfl rfl ?_ rfl rfl ⟨rfl, rv2, es2, ?_, ?_⟩)
      · show ((_ : Heap).set _ _)[σ.length]? = _
        rw [set_eq hz2, hz0]
      · exact h2.keep (Alive.set' h2.al (by rw [hz0]; exact ⟨_, rfl⟩) _) fun id ho => set_ne fun e => hn2 (e ▸ ho)
      · exact hk2.set (Nat.le_refl _) _
    | cons t r =>
      have hlen2 := h2.tn.len
      cases es2 with
      | nil => cases hlen2
      | cons e es3 =>
      have hi0 : 0 < (e :: es3).length := Nat.zero_lt_succ _
      have hi1 : 0 < (t :: r).length := Nat.zero_lt_succ _
      obtain ⟨k1, k2⟩ := h2.tn.get 0 hi0 hi1
      have k1 : σ2[e.tid]? = some (0, some (tnB t e)) := k1
      have k2 : σ2[e.jid]? = some (e.jv, some (.cells (jbC t.jobs) ⟨false, none⟩)) := k2
      obtain ⟨a1, a2, a3, a4, a5⟩ := h2.ap.one hi0
      have a1 : e.tid ≠ q := a1
      have a2 : e.jid ≠ q := a2
      have a3 : e.tid ≠ rid := a3
      have a4 : e.jid ≠ rid := a4
      have a5 : e.tid ≠ e.jid := a5
      have hzt : σ.length ≠ e.tid := fun h' => hn2 (.inr (.inr ⟨e, List.mem_cons_self .., .inl h'⟩))
      have c1 : decide ((((t :: r).length : Nat) : Int) > 0) = true := decide_eq_true (by rw [List.length_cons]; omega)
      have hrx : ((rgC (e :: es3)).drop (offN 0 (mulN ((0 : Int)).toNat 1)))[0]? = some (.ptr e.tid 0 0) := rfl
      obtain ⟨cr1, cr2, cr3⟩ := hok2.cr t (List.mem_cons_self ..)
      have hq1 := hok2.q1
      obtain ⟨j, js, hj⟩ : ∃ j js, t.jobs = j :: js := by
        cases hh : t.jobs with
        | nil => exact absurd hh (hok2.ne t (List.mem_cons_self ..))
        | cons j js => exact ⟨j, js, rfl⟩
      obtain ⟨co1, co2⟩ := hok2.co t (List.mem_cons_self ..) j (by rw [hj]; exact List.mem_cons_self ..)
      have hok3 : ∀ hx : t.turn = false, IntKind.i64.wrap (t.cred + quan) = t.cred + quan := fun hx => by
        have := cr3 hx
        rw [show t.cred + quan = (((t.cred + quan).toNat : Nat) : Int) by omega]
        exact w64 rfl (by omega)
      have hq2 := h2.qb
      refine' S_shareO (ι := Heap) (fun _ => [(0, .ptr q 0 0), (2, .ptr σ.length 0 0), (4, .ptr e.tid 0 0)]) (fun s => s)
        (fun s => QAt s q rid rv2 (e :: es3) quan (turned quan t :: r) ∧ QKeep σ s (Own q rid es) (Own q rid (e :: es3)) ∧ s[σ.length]? = some z0) ?main ?rest
      case main =>
        intro hsh
        cases ht : t.turn with
        | true =>
          have htt : turned quan t = t := by
            unfold turned
            rw [if_pos ht]
            cases t
            simp only at ht
            rw [ht]
          have tb : t.turn = true := ht
          have k1' : σ2[e.tid]? = some (0, some (.cells [.int .i64 t.num, .int .i64 t.cred, .bool true, .ms e.jid e.jv 0 t.jobs.length 3 false] ⟨false, some 63⟩)) := by rw [k1]; unfold tnB; rw [ht]
          refine pao [.v (.ms rid rv2 0 (t :: r).length 1 false), .b true, .v (.ms rid rv2 0 (t :: r).length 1 false), .v .top, .v (.ptr e.tid 0 0), .v (.bool true), .b false, .s] rfl ?_ ?_
          · (repeat' with_reducible apply AllP_cons) <;> try exact aC
            · exact OpSpec.loadP rfl rfl rfl rfl hq2 rfl
            · exact OpSpec.loadP rfl rfl rfl rfl hq2 rfl
            · exact OpSpec.loadE rfl rfl rfl rfl h2.rb hrx
            · exact OpSpec.loadP rfl rfl rfl rfl k1' rfl
          refine hsh σ2 _ ⟨by rw [htt]; exact h2, hk2, hz2⟩ (.cons rfl (.cons rfl (.cons rfl (.nil _))))
        | false =>
          have hw := hok3 ht
          have htt : turned quan t = ⟨t.num, t.cred + quan, true, t.jobs⟩ := by unfold turned; rw [if_neg (by rw [ht]; simp)]
          have k1' : σ2[e.tid]? = some (0, some (.cells [.int .i64 t.num, .int .i64 t.cred, .bool false, .ms e.jid e.jv 0 t.jobs.length 3 false] ⟨false, some 63⟩)) := by rw [k1]; unfold tnB; rw [ht]
          obtain ⟨T1, hT1⟩ : ∃ T1 : Nat × Option Box, T1 = (0, some (tnB ⟨t.num, t.cred, true, t.jobs⟩ e)) := ⟨_, rfl⟩
          obtain ⟨T2, hT2⟩ : ∃ T2 : Nat × Option Box, T2 = (0, some (tnB ⟨t.num, t.cred + quan, true, t.jobs⟩ e)) := ⟨_, rfl⟩
          have h4 := h2.cred hi0 hi1 ⟨t.num, t.cred, true, t.jobs⟩ rfl
          have h4 : QAt (σ2.set e.tid T1) q rid rv2 (e :: es3) quan (⟨t.num, t.cred, true, t.jobs⟩ :: r) := by rw [hT1]; exact h4
          have h5 := h4.cred hi0 (Nat.zero_lt_succ _) ⟨t.num, t.cred + quan, true, t.jobs⟩ rfl
          have h5 : QAt ((σ2.set e.tid T1).set e.tid T2) q rid rv2 (e :: es3) quan (⟨t.num, t.cred + quan, true, t.jobs⟩ :: r) := by rw [hT2]; exact h5
          have hkk : QKeep σ ((σ2.set e.tid T1).set e.tid T2) (Own q rid es) (Own q rid (e :: es3)) := (hk2.trans (QAt.credK hi0)).trans (QAt.credK hi0)
          have hqs : (σ2.set e.tid T1)[q]? = some (0, some (quB quan rid rv2 (t :: r))) := by rw [set_ne (Ne.symm a1)]; exact hq2
          have ht1 : (σ2.set e.tid T1)[e.tid]? = some (0, some (.cells [.int .i64 t.num, .int .i64 t.cred, .bool true, .ms e.jid e.jv 0 t.jobs.length 3 false] ⟨false, some 63⟩)) := by rw [set_eq k1, hT1]; rfl
          have hzz : ((σ2.set e.tid T1).set e.tid T2)[σ.length]? = some z0 := by rw [set_ne hzt, set_ne hzt]; exact hz2
          refine pao [.v (.ms rid rv2 0 (t :: r).length 1 false), .b true, .v (.ms rid rv2 0 (t :: r).length 1 false), .v .top, .v (.ptr e.tid 0 0), .v (.bool false), .b true, .f (.tup []) (fun s => s.set e.tid T1)] rfl ?_ ?_
          · (repeat' with_reducible apply AllP_cons) <;> try exact aC
            · exact OpSpec.loadP rfl rfl rfl rfl hq2 rfl
            · exact OpSpec.loadP rfl rfl rfl rfl hq2 rfl
            · exact OpSpec.loadE rfl rfl rfl rfl h2.rb hrx
            · exact OpSpec.loadP rfl rfl rfl rfl k1' rfl
            · exact OpSpec.storeP (y := .bool true) rfl rfl rfl rfl rfl rfl k1' (lble rfl) (by rw [hT1]; rfl)
          refine S_heap (σ2.set e.tid T1) rfl ?_
          generalize σ2.set e.tid T1 = σ5 at *
          refine S_drawY σ5 σ5 1 2 3 9 [.ptr e.tid 0 0, .ptr e.tid 0 0, .ptr e.tid 0 1, .int .i64 t.cred, .ptr q 0 0, .ptr q 0 0, .ptr q 0 0, .int .i64 quan, .int .i64 (t.cred + quan)] rfl rfl rfl rfl rfl rfl rfl rfl rfl ?_ ?_
          · refine ⟨pureY rfl rfl (fun s => rfl) trivial, opC_step rfl rfl rfl trivial, pureY rfl rfl (fun s => rfl) trivial, specC_step rfl rfl (OpSpec.loadP rfl rfl rfl rfl ht1 rfl), pureY rfl rfl (fun s => rfl) trivial, pureY rfl rfl (fun s => rfl) trivial, pureY rfl rfl (fun s => rfl) trivial, ?_, ?_, trivial⟩
            · exact specY rfl rfl fun s hs => by
                have e : s = σ5 := by rcases hs with e | e | e <;> exact e
                rw [e]
                exact OpSpec.loadP rfl rfl rfl rfl hqs rfl
            · refine pureY rfl rfl (C := []) (fun s => ?_) trivial
              show some ([], AV.int .i64 (IntKind.i64.wrap (t.cred + quan)), s) = _
              rw [hw]
          refine pao [.f (.tup []) (fun s => s.set e.tid T2), .s] rfl ?_ ?_
          · (repeat' with_reducible apply AllP_cons) <;> try exact aC
            · exact OpSpec.storeP (y := .int .i64 (t.cred + quan)) rfl rfl rfl rfl rfl rfl ht1 (lble rfl) (by rw [hT2]; rfl)
          exact hsh (σ5.set e.tid T2) _ ⟨by rw [htt]; exact h5, hkk, hzz⟩ (.cons rfl (.cons rfl (.cons rfl (.nil _))))
      case rest =>
        rintro σ3 ⟨h3, hk3, hz3⟩
        obtain ⟨c, hc⟩ : ∃ c, c = if t.turn = true then t.cred else t.cred + quan := ⟨_, rfl⟩
        have hcb : 0 ≤ c ∧ c ≤ 1999 := by
          rw [hc]
          split
          · exact ⟨cr1, cr2⟩
          · rename_i hx
            have := cr3 (by simpa using hx)
            omega
        have htu : turned quan t = ⟨t.num, c, true, t.jobs⟩ := by unfold turned; rw [← hc]
        have hre : rested quan t = ⟨t.num, c, false, t.jobs⟩ := by unfold rested; rw [← hc]
        rw [htu] at h3
        have hlen3 := h3.tn.len
        obtain ⟨k3, k4⟩ := h3.tn.get 0 hi0 (Nat.zero_lt_succ _)
        have k3 : σ3[e.tid]? = some (0, some (.cells [.int .i64 t.num, .int .i64 c, .bool true, .ms e.jid e.jv 0 t.jobs.length 3 false] ⟨false, some 63⟩)) := k3
        have k4 : σ3[e.jid]? = some (e.jv, some (.cells (jbC t.jobs) ⟨false, none⟩)) := k4
        have hjl : 0 < t.jobs.length := by rw [hj]; exact Nat.zero_lt_succ _
        have hcx : decide ((0 : Int) < (t.jobs.length : Int)) = true := decide_eq_true (by omega)
        have hcost : ((jbC t.jobs).drop (offN 0 (mulN ((0 : Int)).toNat 3) + 2))[0]? = some (.int .i64 j.cost) := by rw [hj]; rfl
        have hmn := hok2.mn
        have hrl := hok2.len
        by_cases hcc : j.cost ≤ c
        · have d1 : decide (j.cost ≤ c) = true := decide_eq_true hcc
          have hw : IntKind.i64.wrap (c - j.cost) = c - j.cost := by
            rw [show c - j.cost = (((c - j.cost).toNat : Nat) : Int) by omega]
            exact w64 rfl (by omega)
          obtain ⟨T3, hT3⟩ : ∃ T3 : Nat × Option Box, T3 = (0, some (tnB ⟨t.num, c - j.cost, true, t.jobs⟩ e)) := ⟨_, rfl⟩
          have h4 := h3.cred hi0 (Nat.zero_lt_succ _) ⟨t.num, c - j.cost, true, t.jobs⟩ rfl
          have h4 : QAt (σ3.set e.tid T3) q rid rv2 (e :: es3) quan (⟨t.num, c - j.cost, true, t.jobs⟩ :: r) := by rw [hT3]; exact h4
          have hk4 : QKeep σ (σ3.set e.tid T3) (Own q rid es) (Own q rid (e :: es3)) := hk3.trans (QAt.credK hi0)
          have hz4 : (σ3.set e.tid T3)[σ.length]? = some z0 := by rw [set_ne hzt]; exact hz3
          refine pao [.v (.ms e.jid e.jv 0 t.jobs.length 3 false), .v .top, .v (.int .i64 j.cost), .v (.int .i64 c), .b true, .v (.int .i64 c), .f (.tup []) (fun s => s.set e.tid T3)] rfl ?_ ?_
          · (repeat' with_reducible apply AllP_cons) <;> try exact aC
            · exact OpSpec.loadP rfl rfl rfl rfl k3 rfl
            · exact OpSpec.loadE rfl rfl rfl rfl k4 hcost
            · exact OpSpec.loadP rfl rfl rfl rfl k3 rfl
            · exact OpSpec.loadP rfl rfl rfl rfl k3 rfl
            · refine OpSpec.storeP (y := .int .i64 (c - j.cost)) rfl rfl rfl ?_ rfl rfl k3 (lble rfl) (by rw [hT3]; rfl)
              show AV.int .i64 (IntKind.i64.wrap (c - j.cost)) = _
              rw [hw]
          have hmq : manyQ (⟨t.num, c - j.cost, true, t.jobs⟩ :: r) ≤ 200 := hmn
          have htk := take_ok (σ3.set e.tid T3) q rid rv2 (e :: es3) quan (⟨t.num, c - j.cost, true, t.jobs⟩ :: r) 0 0 h4 hmq hrl (Nat.zero_lt_succ _) hjl
          refine S_call rfl rfl rfl htk (fun v' σ' hv => ?_) (fun v' σ' hv => ?_)
          case _ =>
            obtain ⟨e1, es4, h5, hk5⟩ := hv
            cases e1
            have hjj : (t.jobs)[0] = j := by simp only [hj, List.getElem_cons_zero]
            have hkk := hk4.trans hk5
            have hn4 : ¬ Own q rid (e :: es3) σ.length := fun ho => hn2 ho
            have hlt4 : σ.length < (σ3.set e.tid T3).length := lt_of_get hz4
            have hz5 : σ'[σ.length]? = some z0 := by rw [hk5.same _ hlt4 hn4]; exact hz4
            have hn5 : ¬ Own q rid es4 σ.length := fun ho => by
              rcases hk5.new _ ho with h' | h'
              · exact hn4 h'
              · omega
            obtain ⟨zj, hzj⟩ : ∃ zj : Nat × Option Box, zj = (0, some (.cells j.cells ⟨false, some 34⟩)) := ⟨_, rfl⟩
            have hnx : nxtQ quan ring = (some j, takR (⟨t.num, c - j.cost, true, t.jobs⟩ :: r) 0 0) := by
              rw [← hnf, nxtF]
              simp only [hj]
              rw [← hc, if_pos hcc]
            rw [hnx]
            refine pao [.f (.tup []) (fun s => s.set σ.length zj)] rfl ?_ ?_
            · (repeat' with_reducible apply AllP_cons) <;> try exact aC
              · refine OpSpec.storeP (id := σ.length) (gT := some 34) (cs := [.int .i64 0, .str [], .int .i64 0]) (y := jobA j) rfl rfl rfl ?_ rfl rfl ?_ (lble rfl) ?_
                · show jobA (t.jobs)[0] = _
                  rw [hjj]
                · rw [hz5, hz0]
                · rw [hzj]; rfl
            refine S_ret (ret_c2 (id := σ.length) (off := 0) (cur := 0) (cs := j.cells) (g := ⟨false, some 34⟩) rfl rfl ?_ rfl rfl ⟨rfl, rv2, es4, ?_, ?_⟩)
            · show ((_ : Heap).set _ _)[σ.length]? = _
              rw [set_eq hz5, hzj]
            · exact h5.keep (Alive.set' h5.al (by rw [hzj]; exact ⟨_, rfl⟩) _) fun id ho => set_ne fun e => hn5 (e ▸ ho)
            · exact hkk.set (Nat.le_refl _) _
          case _ =>
            obtain ⟨e1, _⟩ := hv
            cases e1
        · have d1 : decide (j.cost ≤ c) = false := decide_eq_false hcc
          obtain ⟨T4, hT4⟩ : ∃ T4 : Nat × Option Box, T4 = (0, some (tnB ⟨t.num, c, false, t.jobs⟩ e)) := ⟨_, rfl⟩
          have h4 := h3.cred hi0 (Nat.zero_lt_succ _) ⟨t.num, c, false, t.jobs⟩ rfl
          have h4 : QAt (σ3.set e.tid T4) q rid rv2 (e :: es3) quan (⟨t.num, c, false, t.jobs⟩ :: r) := by rw [hT4]; exact h4
          have hk4 : QKeep σ (σ3.set e.tid T4) (Own q rid es) (Own q rid (e :: es3)) := hk3.trans (QAt.credK hi0)
          have hz4 : (σ3.set e.tid T4)[σ.length]? = some z0 := by rw [set_ne hzt]; exact hz3
          have h5 := h4.rot
          obtain ⟨R2, hR2⟩ : ∃ R2 : Nat × Option Box, R2 = (rv2 + 1, some (.cells ((rgC (e :: es3)).drop 1 ++ [AV.ptr e.tid 0 0]) ⟨false, none⟩)) := ⟨_, rfl⟩
          obtain ⟨Q2, hQ2⟩ : ∃ Q2 : Nat × Option Box, Q2 = (0, some (quB quan rid (rv2 + 1) (⟨t.num, c, false, t.jobs⟩ :: r))) := ⟨_, rfl⟩
          rw [← hR2, ← hQ2] at h5
          have hk5 := hk4.trans (QAt.rotK (σ := σ3.set e.tid T4) (q := q) (rid := rid) (e := e) (es := es3) (x := R2) (y := Q2))
          have hz5 : (((σ3.set e.tid T4).set rid R2).set q Q2)[σ.length]? = some z0 := by rw [set_ne (by omega), set_ne (by omega)]; exact hz4
          have hqb4 := h4.qb
          have hrb4 := h4.rb
          refine pao [.v (.ms e.jid e.jv 0 t.jobs.length 3 false), .v .top, .v (.int .i64 j.cost), .v (.int .i64 c), .b false, .f (.tup []) (fun s => s.set e.tid T4), .v (.ms rid rv2 0 (r.length + 1) 1 false), .f (.ms rid (rv2 + 1) 0 (r.length + 1) 1 false) (fun s => s.set rid R2), .f (.tup []) (fun s => s.set q Q2)] rfl ?_ ?_
          · (repeat' with_reducible apply AllP_cons) <;> try exact aC
            · exact OpSpec.loadP rfl rfl rfl rfl k3 rfl
            · exact OpSpec.loadE rfl rfl rfl rfl k4 hcost
            · exact OpSpec.loadP rfl rfl rfl rfl k3 rfl
            · exact OpSpec.storeP (y := .bool false) rfl rfl rfl rfl rfl rfl k3 (lble rfl) (by rw [hT4]; rfl)
            · exact OpSpec.loadP rfl rfl rfl rfl hqb4 rfl
            · refine OpSpec.appendX (id := rid) (ver := rv2) (off := 1) (len := r.length) (y := .ptr e.tid 0 0) (cs := rgC (e :: es3)) rfl rfl rfl rfl rfl (fun z hz => ?_) hrb4 ?_ ?_ ?_ ?_
              · have hz : z ∈ [AV.ptr e.tid 0 0] := hz
                rw [List.mem_singleton.1 hz]; rfl
              · have hl : es3.length = r.length := Nat.succ.inj hlen2
                simp [rgC, hl]; omega
              · show (r.length + 1) * 8 ≤ 140737488355328
                rw [List.length_cons] at hrl; omega
              · rw [List.length_cons] at hrl; omega
              · rw [hR2]; rfl
            · refine OpSpec.storeP (id := q) (gT := some 56) (cs := [.int .i64 quan, .ms rid rv2 0 (r.length + 1) 1 false, .int .i64 (manyQ (⟨t.num, c, false, t.jobs⟩ :: r) : Nat)]) rfl rfl rfl rfl rfl rfl ?_ (lble rfl) ?_
              · show ((_ : Heap).set _ _)[q]? = _
                rw [set_ne hqr]; exact hqb4
              · rw [hQ2]; rfl
          have hrot := hok2.rot hj (by rw [← hc]; exact hcc)
          rw [hre] at hrot
          refine S_round (((σ3.set e.tid T4).set rid R2).set q Q2, rv2 + 1, es3 ++ [e], r ++ [⟨t.num, c, false, t.jobs⟩]) hrot.2 ⟨h5, hk5, hz5, fun ho => ?_, hrot.1, f, ?_, ?_⟩ (.cons rfl (.cons rfl (.nil _))) rfl
          · rcases ho with h' | h' | ⟨x, hx, h'⟩
            · exact hn2 (.inl h')
            · exact hn2 (.inr (.inl h'))
            · refine hn2 (.inr (.inr ⟨x, ?_, h'⟩))
              rcases List.mem_append.1 hx with hx | hx
              · exact List.mem_cons_of_mem _ hx
              · rw [List.mem_singleton.1 hx]; exact List.mem_cons_self ..
          · have := hrot.2
            show mQ (r ++ [⟨t.num, c, false, t.jobs⟩]) < f
            omega
          · rw [← hnf]
            show nxtF f quan (r ++ [⟨t.num, c, false, t.jobs⟩]) = _
            conv => rhs; rw [nxtF]
            simp only [hj]
            rw [← hc, if_neg hcc]
end Go.Proofs.Ytjaflkgfipaajaa
end
section
set_option linter.unusedVariables false
set_option linter.unusedSimpArgs false
set_option maxRecDepth 20000
namespace Go.Proofs.Ytjaflkgfipaajaa
open Go Go.Ab
def digs (n : Nat) : List UInt8 := if h : n < 10 then [UInt8.ofNat (48 + n)] else digs (n / 10) ++ [UInt8.ofNat (48 + n % 10)]
termination_by n
decreasing_by omega
theorem digs_len (n : Nat) : ∀ m, m = n → (digs m).length ≤ m + 1 := by
  induction n using Nat.strongRecOn with
  | _ n ih =>
    intro m hm
    rw [digs]
    split
    · simp
    · have := ih (m / 10) (by omega) (m / 10) rfl
      rw [List.length_append]; simp only [List.length_cons, List.length_nil]; omega
theorem DigitsOf_ok (n : Nat) : ∀ m, m = n → m ≤ 9007199254740991 → Calc cx 9 [.int .i64 (m : Nat)] (.str (digs m)) := by
  induction n using Nat.strongRecOn with
  | _ n ih =>
    intro m hm hb
    exact pure_intro (fun a w => Try.call9 a w) Try.func9 rfl Try.ntmps9 rfl .str fun B => by
      refine ab 1000 rfl trivial ?_
      refine S_dec rfl (fun h => ?_) (fun h => ?_)
      · have h : m < 10 := by have : (m : Int) < 10 := h; omega
        refine ab 1000 rfl ⟨?_, rfl, trivial⟩ ?_
        · intro x hx; simp at hx; subst hx; trivial
        refine S_retc .str rfl trivial ?_
        show AV.str [Ab.byteOf (.int .u8 (IntKind.u8.wrap (IntKind.i64.wrap (48 + (m : Int)))))] = _
        rw [digs, dif_pos h, w64 (k := 48 + m) (by omega) (by omega), wu8 (k := 48 + m) rfl (by omega)]
        rfl
      · have h : ¬ m < 10 := by have : ¬ (m : Int) < 10 := h; omega
        have e1 : (m : Int).tdiv 10 = ((m / 10 : Nat) : Int) := rfl
        have e2 : (m : Int).tmod 10 = ((m % 10 : Nat) : Int) := rfl
        refine ab 1000 rfl ⟨by decide, trivial⟩ ?_
        have f1 : AV.int .i64 (IntKind.i64.wrap ((m : Int).tdiv 10)) = .int .i64 ((m / 10 : Nat) : Int) := ai64 e1 (by omega)
        have f2 : AV.int .i64 ((m : Int).tmod 10) = .int .i64 ((m % 10 : Nat) : Int) := by rw [e2]
        have l1 := digs_len _ (m / 10) rfl
        have l2 := digs_len _ (m % 10) rfl
        refine S_pure rfl rfl rfl (ih (m / 10) (by omega) (m / 10) rfl (by omega)) (.cons (by show Frz false _ (AV.int .i64 (IntKind.i64.wrap ((m : Int).tdiv 10))) _; rw [f1]; exact .refl .int) (.nil _)) ?_
        refine ab 1000 rfl ⟨by decide, trivial⟩ ?_
        refine S_pure rfl rfl rfl (ih (m % 10) (by omega) (m % 10) rfl (by omega)) (.cons (by show Frz false _ (AV.int .i64 ((m : Int).tmod 10)) _; rw [f2]; exact .refl .int) (.nil _)) ?_
        refine ab 1000 rfl ⟨?_, trivial⟩ ?_
        · show (((digs (m / 10)).length + (digs (m % 10)).length : Nat) : Int) ≤ 9223372036854775807; omega
        refine S_retc .str rfl trivial ?_
        conv => rhs; rw [digs, dif_neg h]
        rw [show digs (m % 10) = [UInt8.ofNat (48 + m % 10)] by rw [digs, dif_pos (by omega)]]
        rfl
end Go.Proofs.Ytjaflkgfipaajaa
end
