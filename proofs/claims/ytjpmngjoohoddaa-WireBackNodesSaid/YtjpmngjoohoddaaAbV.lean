/-
  A call that touches a part of the heap: what was shown for that part alone holds of the whole.
-/
import Derived.Test.YtjpmngjoohoddaaAbU
set_option linter.unusedVariables false
set_option linter.unusedSimpArgs false
namespace Go.Ab
open Go

/-- A value of the part, and the same value of the whole; 'ids': where the part's boxes lie in the whole. -/
inductive Rn (ids : List Nat) : AV → AV → Prop
  | free {a} (h : Free false a) : Rn ids a a
  | ptr {i j v o} (h : ids[i]? = some j) : Rn ids (.ptr i v o) (.ptr j v o)
  | eptr {i j v o} (h : ids[i]? = some j) : Rn ids (.eptr i v o) (.eptr j v o)
  | ms {i j v o n sz fl} (h : ids[i]? = some j) : Rn ids (.ms i v o n sz fl) (.ms j v o n sz fl)
  | map {i j v} (h : ids[i]? = some j) : Rn ids (.map i v) (.map j v)
  | iface {t a b} (h : Rn ids a b) : Rn ids (.iface t a) (.iface t b)
  | agg {as bs} (hl : as.length = bs.length) (h : ∀ i (h1 : i < as.length) (h2 : i < bs.length), Rn ids as[i] bs[i]) : Rn ids (.agg as) (.agg bs)
  | tup {as bs} (hl : as.length = bs.length) (h : ∀ i (h1 : i < as.length) (h2 : i < bs.length), Rn ids as[i] bs[i]) : Rn ids (.tup as) (.tup bs)
  | func {fn as bs as' bs'} (hl : as.length = as'.length) (h : ∀ i (h1 : i < as.length) (h2 : i < as'.length), Rn ids as[i] as'[i]) (hl' : bs.length = bs'.length) (h' : ∀ i (h1 : i < bs.length) (h2 : i < bs'.length), Rn ids bs[i] bs'[i]) :
      Rn ids (.func fn as bs) (.func fn as' bs')

def Rns (ids : List Nat) (as bs : List AV) : Prop := as.length = bs.length ∧ ∀ i (h1 : i < as.length) (h2 : i < bs.length), Rn ids as[i] bs[i]

theorem Rns.nil (ids : List Nat) : Rns ids [] [] := ⟨rfl, fun i h => absurd h (by simp)⟩
theorem Rns.cons {ids : List Nat} {a b : AV} {as bs : List AV} (h : Rn ids a b) (hs : Rns ids as bs) : Rns ids (a :: as) (b :: bs) := by
  refine ⟨by simp [hs.1], fun i h1 h2 => ?_⟩
  cases i with
  | zero => exact h
  | succ i => simpa using hs.2 i (by simpa using h1) (by simpa using h2)

theorem Rns.free {ids : List Nat} {as : List AV} (h : ∀ x ∈ as, Free false x) : Rns ids as as := ⟨rfl, fun i h1 h2 => .free (h _ (List.getElem_mem h1))⟩

theorem Rn.one {ids : List Nat} {a b : AV} (h : Rn ids a b) : a.one = b.one := by cases h <;> rfl

/-- From the part to the whole. -/
theorem Rn.up {ids : List Nat} {r r' : Rl} {w : World} (hS : ∀ b, r.S b → r'.S b) (hI : ∀ b, r.I b → r'.I b) (hSI : ∀ b, r'.S b → r'.I b) (hρ : ∀ i j ver p, ids[i]? = some j → r.ρ i ver = some p → r'.ρ j ver = some p) {a b : AV} (h : Rn ids a b) :
    ∀ {v : Value}, VRel r w v a → VRel r' w v b := by
  induction h with
  | free h => intro v hv; exact hv.free h hS hSI (fun _ => hI)
  | ptr h => intro v hv; cases hv; exact .ptr (hρ _ _ _ _ h ‹_›)
  | eptr h => intro v hv; cases hv; exact .eptr (hρ _ _ _ _ h ‹_›)
  | ms h =>
    intro v hv
    cases hv with
    | ms0 => exact .ms0
    | ms h1 h2 h3 h4 => exact .ms (hρ _ _ _ _ h h1) h2 h3 h4
  | map h => intro v hv; cases hv; exact .map (hρ _ _ _ _ h ‹_›)
  | iface h ih => intro v hv; cases hv with | iface h1 => exact .iface (ih h1)
  | agg hl h ih =>
    intro v hv
    cases hv with
    | agg hn h2 => exact .agg (by omega) (fun i hi => ih i (by omega) hi (h2 i (by omega)))
  | tup hl h ih =>
    intro v hv
    cases hv with
    | tup hn h2 => exact .tup (by omega) (fun i hi => ih i (by omega) hi (h2 i (by omega)))
  | func hl h hl' h' ih ih' =>
    intro v hv
    cases hv with
    | func h1 h2 h3 h4 => exact .func (by omega) (fun i hi => ih i (by omega) hi (h2 i (by omega))) (by omega) (fun i hi => ih' i (by omega) hi (h4 i (by omega)))

/-- From the whole to the part. -/
theorem Rn.down {ids : List Nat} {r r' : Rl} {w : World} (hS : ∀ b, r.S b → r'.S b) (hI : ∀ b, r.I b → r'.I b) (hSI : ∀ b, r'.S b → r'.I b) (hρ : ∀ i j ver p, ids[i]? = some j → r.ρ j ver = some p → r'.ρ i ver = some p) {a b : AV} (h : Rn ids a b) :
    ∀ {v : Value}, VRel r w v b → VRel r' w v a := by
  induction h with
  | free h => intro v hv; exact hv.free h hS hSI (fun _ => hI)
  | ptr h => intro v hv; cases hv; exact .ptr (hρ _ _ _ _ h ‹_›)
  | eptr h => intro v hv; cases hv; exact .eptr (hρ _ _ _ _ h ‹_›)
  | ms h =>
    intro v hv
    cases hv with
    | ms0 => exact .ms0
    | ms h1 h2 h3 h4 => exact .ms (hρ _ _ _ _ h h1) h2 h3 h4
  | map h => intro v hv; cases hv; exact .map (hρ _ _ _ _ h ‹_›)
  | iface h ih => intro v hv; cases hv with | iface h1 => exact .iface (ih h1)
  | agg hl h ih =>
    intro v hv
    cases hv with
    | agg hn h2 => exact .agg (by omega) (fun i hi => ih i hi (by omega) (h2 i (by omega)))
  | tup hl h ih =>
    intro v hv
    cases hv with
    | tup hn h2 => exact .tup (by omega) (fun i hi => ih i hi (by omega) (h2 i (by omega)))
  | func hl h hl' h' ih ih' =>
    intro v hv
    cases hv with
    | func h1 h2 h3 h4 => exact .func (by omega) (fun i hi => ih i hi (by omega) (h2 i (by omega))) (by omega) (fun i hi => ih' i hi (by omega) (h4 i (by omega)))

inductive RnB (ids : List Nat) : Box → Box → Prop
  | cells {cs ds g} (h : Rns ids cs ds) : RnB ids (.cells cs g) (.cells ds g)
  | map {as bs} (hl : as.length = bs.length) (h : ∀ i (h1 : i < as.length) (h2 : i < bs.length), Rn ids as[i].1 bs[i].1 ∧ Rn ids as[i].2 bs[i].2) : RnB ids (.map as) (.map bs)
  | siter {s p} : RnB ids (.siter s p) (.siter s p)

theorem RnB.up {ids : List Nat} {r r' : Rl} {w : World} {bl o : Nat} (hS : ∀ b, r.S b → r'.S b) (hI : ∀ b, r.I b → r'.I b) (hSI : ∀ b, r'.S b → r'.I b) (hρ : ∀ i j ver p, ids[i]? = some j → r.ρ i ver = some p → r'.ρ j ver = some p) {x y : Box} (h : RnB ids x y)
    (hb : BoxRel r w bl o x) : BoxRel r' w bl o y := by
  cases h with
  | cells h =>
    obtain ⟨c, t, lo, hi, h1, h2, h3, h4, h5⟩ := hb
    refine ⟨c, t, lo, hi, h1, fun i hi' => ?_, fun x hx => ?_, fun i a b c => by have := h4 i a b c; rw [h.1] at this; exact this, h5⟩
    · obtain ⟨v, k1, k2⟩ := h2 i (by rw [h.1]; exact hi')
      exact ⟨v, k1, (h.2 i (by rw [h.1]; exact hi') hi').up hS hI hSI hρ k2⟩
    · obtain ⟨i, hi1, rfl⟩ := List.getElem_of_mem hx
      rw [← (h.2 i (by rw [h.1]; exact hi1) hi1).one]; exact h3 _ (List.getElem_mem _)
  | map hl h =>
    obtain ⟨h0, es, clock, h1, h2, h3, h4⟩ := hb
    refine ⟨h0, es, clock, h1, by omega, fun i hi' => ?_, h4⟩
    obtain ⟨e, k1, k2, k3⟩ := h3 i (by omega)
    exact ⟨e, k1, (h i (by omega) hi').1.up hS hI hSI hρ k2, (h i (by omega) hi').2.up hS hI hSI hρ k3⟩
  | siter => exact hb

theorem RnB.down {ids : List Nat} {r r' : Rl} {w : World} {bl o : Nat} (hS : ∀ b, r.S b → r'.S b) (hI : ∀ b, r.I b → r'.I b) (hSI : ∀ b, r'.S b → r'.I b) (hρ : ∀ i j ver p, ids[i]? = some j → r.ρ j ver = some p → r'.ρ i ver = some p) {x y : Box} (h : RnB ids x y)
    (hb : BoxRel r w bl o y) : BoxRel r' w bl o x := by
  cases h with
  | cells h =>
    obtain ⟨c, t, lo, hi, h1, h2, h3, h4, h5⟩ := hb
    refine ⟨c, t, lo, hi, h1, fun i hi' => ?_, fun x hx => ?_, fun i a b c => by have := h4 i a b c; rw [h.1]; exact this, h5⟩
    · obtain ⟨v, k1, k2⟩ := h2 i (by rw [← h.1]; exact hi')
      exact ⟨v, k1, (h.2 i hi' (by rw [← h.1]; exact hi')).down hS hI hSI hρ k2⟩
    · obtain ⟨i, hi1, rfl⟩ := List.getElem_of_mem hx
      rw [(h.2 i hi1 (by rw [← h.1]; exact hi1)).one]; exact h3 _ (List.getElem_mem _)
  | map hl h =>
    obtain ⟨h0, es, clock, h1, h2, h3, h4⟩ := hb
    refine ⟨h0, es, clock, h1, by omega, fun i hi' => ?_, h4⟩
    obtain ⟨e, k1, k2, k3⟩ := h3 i (by omega)
    exact ⟨e, k1, (h i hi' (by omega)).1.down hS hI hSI hρ k2, (h i hi' (by omega)).2.down hS hI hSI hρ k3⟩
  | siter => exact hb

inductive RnE (ids : List Nat) : Nat × Option Box → Nat × Option Box → Prop
  | dead {v} : RnE ids (v, none) (v, none)
  | live {v x y} (h : RnB ids x y) : RnE ids (v, some x) (v, some y)

def RnH (ids : List Nat) (as bs : Heap) : Prop := as.length = bs.length ∧ ∀ i (h1 : i < as.length) (h2 : i < bs.length), RnE ids as[i] bs[i]

theorem RnH.nil (ids : List Nat) : RnH ids [] [] := ⟨rfl, fun i h => absurd h (by simp)⟩
theorem RnH.cons {ids : List Nat} {a b : Nat × Option Box} {as bs : Heap} (h : RnE ids a b) (hs : RnH ids as bs) : RnH ids (a :: as) (b :: bs) := by
  refine ⟨by simp [hs.1], fun i h1 h2 => ?_⟩
  cases i with
  | zero => exact h
  | succ i => simpa using hs.2 i (by simpa using h1) (by simpa using h2)

/-- The heap with these entries put at these places; what is left over comes behind. -/
def putAll : Heap → List Nat → Heap → Heap
  | σ, i :: ids, e :: es => putAll (σ.set i e) ids es
  | σ, [], es => σ ++ es
  | σ, _ :: _, [] => σ

def newIds : Nat → Nat → List Nat
  | _, 0 => []
  | k, n + 1 => k :: newIds (k + 1) n

theorem newIds_get : ∀ (n k i : Nat), (newIds k n)[i]? = if i < n then some (k + i) else none
  | 0, k, i => by simp [newIds]
  | n + 1, k, i => by
    cases i with
    | zero => simp [newIds]
    | succ i => simp only [newIds, List.getElem?_cons_succ, newIds_get n (k + 1) i]; by_cases h : i < n <;> simp [h]; omega

theorem putAll_length : ∀ (ids : List Nat) (es σ : Heap), ids.length ≤ es.length → (putAll σ ids es).length = σ.length + (es.length - ids.length)
  | [], es, σ, h => by simp [putAll]
  | i :: ids, [], σ, h => by simp at h
  | i :: ids, e :: es, σ, h => by
    rw [putAll, putAll_length ids es (σ.set i e) (by simpa using h)]
    simp

theorem putAll_other : ∀ (ids : List Nat) (es σ : Heap) (j : Nat), j < σ.length → j ∉ ids → (putAll σ ids es)[j]? = σ[j]?
  | [], es, σ, j, hj, h => by simp [putAll, List.getElem?_append_left hj]
  | i :: ids, [], σ, j, hj, h => rfl
  | i :: ids, e :: es, σ, j, hj, h => by
    simp only [List.mem_cons, not_or] at h
    rw [putAll, putAll_other ids es (σ.set i e) j (by simpa using hj) h.2, List.getElem?_set, if_neg (fun e => h.1 e.symm)]

theorem putAll_at : ∀ (ids : List Nat) (es σ : Heap) (i j : Nat), ids.Nodup → (∀ j ∈ ids, j < σ.length) → ids.length ≤ es.length → (ids ++ newIds σ.length (es.length - ids.length))[i]? = some j → (putAll σ ids es)[j]? = es[i]?
  | [], es, σ, i, j, hn, hr, hl, h => by
    simp only [List.nil_append, List.length_nil, Nat.sub_zero, newIds_get] at h
    split at h
    · simp only [Option.some.injEq] at h; subst h
      simp only [putAll]
      rw [List.getElem?_append_right (by omega)]; congr 1; omega
    · cases h
  | i0 :: ids, [], σ, i, j, hn, hr, hl, h => by simp at hl
  | i0 :: ids, e :: es, σ, i, j, hn, hr, hl, h => by
    have hn' := List.nodup_cons.1 hn
    cases i with
    | zero =>
      simp only [List.cons_append, List.getElem?_cons_zero, Option.some.injEq] at h
      subst h
      rw [putAll, putAll_other _ _ _ _ (by simpa using hr i0 (List.mem_cons_self ..)) hn'.1]
      simp [hr i0 (List.mem_cons_self ..)]
    | succ i =>
      simp only [List.cons_append, List.getElem?_cons_succ, List.length_cons, Nat.add_sub_add_right] at h
      rw [putAll, putAll_at ids es (σ.set i0 e) i j hn'.2 (fun j hj => by simpa using hr j (List.mem_cons_of_mem _ hj)) (by simpa using hl) (by simpa using h)]
      simp

def pos : List Nat → Nat → Option Nat
  | [], _ => none
  | x :: r, j => if x = j then some 0 else (pos r j).map (· + 1)

theorem pos_some : ∀ {l : List Nat} {j i : Nat}, pos l j = some i → l[i]? = some j
  | [], j, i, h => by cases h
  | x :: r, j, i, h => by
    unfold pos at h
    split at h
    · rename_i hx; simp only [Option.some.injEq] at h; subst h; subst hx; rfl
    · obtain ⟨k, hk, rfl⟩ := Option.map_eq_some_iff.1 h
      simpa using pos_some hk

theorem pos_none : ∀ {l : List Nat} {j : Nat}, pos l j = none → j ∉ l
  | [], j, h => by simp
  | x :: r, j, h => by
    unfold pos at h
    split at h
    · cases h
    · rename_i hx
      simp only [List.mem_cons, not_or]
      exact ⟨fun e => hx e.symm, pos_none (Option.map_eq_none_iff.1 h)⟩

theorem pos_of {l : List Nat} {j i : Nat} (hn : l.Nodup) (h : l[i]? = some j) : pos l j = some i := by
  cases hp : pos l j with
  | none => exact absurd (List.mem_of_getElem? h) (pos_none hp)
  | some k =>
    have h2 := pos_some hp
    have hi : i < l.length := by
      rcases Nat.lt_or_ge i l.length with h' | h'
      · exact h'
      · rw [List.getElem?_eq_none h'] at h; cases h
    have hk : k < l.length := by
      rcases Nat.lt_or_ge k l.length with h' | h'
      · exact h'
      · rw [List.getElem?_eq_none h'] at h2; cases h2
    have : i = k := (List.getElem?_inj hi hn).1 (h.trans h2.symm)
    rw [this]

def Rl.sub (r : Rl) (ids : List Nat) : Rl := { S := r.S, I := r.I, ρ := fun i ver => match ids[i]? with | some j => r.ρ j ver | none => none }

/-- The part lies in the whole. -/
structure Part (ids : List Nat) (σ τ : Heap) : Prop where
  nd : ids.Nodup
  lt : ∀ j ∈ ids, j < τ.length
  len : σ.length = ids.length
  at_ : ∀ (i j : Nat) e, ids[i]? = some j → σ[i]? = some e → ∃ e', τ[j]? = some e' ∧ RnE ids e e'

theorem sub_live {r : Rl} {ids : List Nat} {σ τ : Heap} (hp : Part ids σ τ) {b : Nat} (h : Live (r.sub ids) σ b) : ∃ (i j ver : Nat) (x : Box) (o : Nat), ids[i]? = some j ∧ τ[j]? = some (ver, some x) ∧ r.ρ j ver = some (b, o) := by
  obtain ⟨i, ver, x, o, h1, h2⟩ := h
  simp only [Rl.sub] at h2
  split at h2
  · rename_i j hj
    obtain ⟨e', h3, h4⟩ := hp.at_ i j _ hj h1
    cases h4 with
    | live h5 => exact ⟨i, j, ver, _, o, hj, h3, h2⟩
  · cases h2

theorem frame_down {cx : Cx} {r : Rl} {ids : List Nat} {σ τ : Heap} {w : World} (hi : Inv cx r τ w) (hp : Part ids σ τ) : Inv cx (r.sub ids) σ w := by
  have hρ : ∀ i j ver p, ids[i]? = some j → r.ρ j ver = some p → (r.sub ids).ρ i ver = some p := by
    intro i j ver p h1 h2
    simp only [Rl.sub, h1]; exact h2
  have hρ' : ∀ {i ver : Nat} {p : Nat × Nat}, (r.sub ids).ρ i ver = some p → ∃ j, ids[i]? = some j ∧ r.ρ j ver = some p := by
    intro i ver p h
    simp only [Rl.sub] at h
    split at h
    · rename_i j hj; exact ⟨j, hj, h⟩
    · cases h
  have hex : ∀ {i : Nat} {e : Nat × Option Box}, σ[i]? = some e → ∃ j, ids[i]? = some j := by
    intro i e h
    have : i < σ.length := by
      rcases Nat.lt_or_ge i σ.length with h' | h'
      · exact h'
      · rw [List.getElem?_eq_none h'] at h; cases h
    exact ⟨ids[i]'(by rw [← hp.len]; exact this), List.getElem?_eq_getElem _⟩
  refine ⟨fun i ver x h => ?_, fun i ver b o h => ?_, fun i i' v v' x x' b o o' h1 h2 h3 h4 => ?_, fun b hb hI => ?_, hi.Ilt, hi.SI, hi.glob⟩
  · obtain ⟨j, hj⟩ := hex h
    obtain ⟨e', h3, h4⟩ := hp.at_ i j _ hj h
    cases h4 with
    | live h5 =>
      rcases hi.box j ver _ h3 with ⟨b, o, k1, k2⟩ | ⟨k1, ro, k2⟩
      · exact .inl ⟨b, o, hρ i j ver _ hj k1, h5.down (r := r) (r' := r.sub ids) (fun _ h => h) (fun _ h => h) hi.SI hρ k2⟩
      · refine .inr ⟨by simp only [Rl.sub, hj]; exact k1, ?_⟩
        subst k2
        cases h5 with
        | cells h6 => exact ⟨_, by rw [List.eq_nil_of_length_eq_zero h6.1]⟩
  · obtain ⟨j, hj, h1⟩ := hρ' h
    obtain ⟨⟨cur, x, h2, h3⟩, h4⟩ := hi.lt j ver b o h1
    refine ⟨?_, h4⟩
    have hil : i < ids.length := by
      rcases Nat.lt_or_ge i ids.length with h' | h'
      · exact h'
      · rw [List.getElem?_eq_none h'] at hj; cases hj
    have hs : σ[i]? = some (σ[i]'(by rw [hp.len]; exact hil)) := List.getElem?_eq_getElem _
    obtain ⟨e', h5, h6⟩ := hp.at_ i j _ hj hs
    rw [h2] at h5
    cases h5
    generalize σ[i]'(by rw [hp.len]; exact hil) = e at hs h6
    cases h6 with
    | dead => exact ⟨cur, none, hs, h3⟩
    | live h7 => exact ⟨cur, _, hs, h3⟩
  · obtain ⟨j, hj, k1⟩ := hρ' h3
    obtain ⟨j', hj', k2⟩ := hρ' h4
    obtain ⟨e, k3, k4⟩ := hp.at_ i j _ hj h1
    obtain ⟨e', k5, k6⟩ := hp.at_ i' j' _ hj' h2
    cases k4 with
    | live k7 =>
      cases k6 with
      | live k8 =>
        have := hi.inj j j' v v' _ _ b o o' k3 k5 k1 k2
        subst this
        have q1 := pos_of hp.nd hj
        have q2 := pos_of hp.nd hj'
        rw [q1] at q2
        exact Option.some.inj q2
  · obtain ⟨i, j, ver, x, o, k1, k2, k3⟩ := sub_live hp hb
    exact hi.imm b ⟨j, ver, x, o, k2, k3⟩ hI

def Rl.join (r r1 : Rl) (ids : List Nat) : Rl := { S := r1.S, I := r1.I, ρ := fun j ver => match pos ids j with | some i => r1.ρ i ver | none => r.ρ j ver }

theorem newIds_mem : ∀ (n k j : Nat), j ∈ newIds k n → k ≤ j
  | 0, k, j, h => by simp [newIds] at h
  | n + 1, k, j, h => by
    rcases List.mem_cons.1 h with rfl | h
    · exact Nat.le_refl _
    · have := newIds_mem n (k + 1) j h; omega

theorem newIds_nodup : ∀ (n k : Nat), (newIds k n).Nodup
  | 0, k => List.nodup_nil
  | n + 1, k => List.nodup_cons.2 ⟨fun h => by have := newIds_mem n (k + 1) k h; omega, newIds_nodup n (k + 1)⟩

theorem frame_up {cx : Cx} {r r1 : Rl} {ids ids' : List Nat} {σ σ1 τ es : Heap} {w w' : World} (hi : Inv cx r τ w) (hp : Part ids σ τ) (hi1 : Inv cx r1 σ1 w') (hx : Ext (r.sub ids) σ w r1 σ1 w')
    (hids : ids' = ids ++ newIds τ.length (es.length - ids.length)) (hes : RnH ids' σ1 es) :
    Inv cx (r.join r1 ids') (putAll τ ids es) w' ∧ Ext r τ w (r.join r1 ids') (putAll τ ids es) w' ∧ ∀ (v : Value) (a b : AV), Rn ids' a b → VRel r1 w' v a → VRel (r.join r1 ids') w' v b := by
  have hlen : ids.length ≤ es.length := by rw [← hes.1, ← hp.len]; exact hx.σl
  have hnd : ids'.Nodup := by
    rw [hids]
    refine List.nodup_append.2 ⟨hp.nd, newIds_nodup _ _, fun a ha b hb => ?_⟩
    have h1 := hp.lt a ha
    have h2 := newIds_mem _ _ _ hb
    omega
  have hat : ∀ {i j : Nat}, ids'[i]? = some j → (putAll τ ids es)[j]? = es[i]? := fun {i j} h => putAll_at ids es τ i j hp.nd hp.lt hlen (hids ▸ h)
  have hρ : ∀ i j ver p, ids'[i]? = some j → r1.ρ i ver = some p → (r.join r1 ids').ρ j ver = some p := by
    intro i j ver p h1 h2
    simp only [Rl.join, pos_of hnd h1]; exact h2
  have hup : ∀ (v : Value) (a b : AV), Rn ids' a b → VRel r1 w' v a → VRel (r.join r1 ids') w' v b := fun v a b h hv => h.up (r := r1) (r' := r.join r1 ids') (fun _ h => h) (fun _ h => h) hi1.SI hρ hv
  -- where an id lies
  have hcase : ∀ (j : Nat) e, (putAll τ ids es)[j]? = some e → (∃ i e0, ids'[i]? = some j ∧ pos ids' j = some i ∧ σ1[i]? = some e0 ∧ RnE ids' e0 e) ∨ (j ∉ ids' ∧ pos ids' j = none ∧ τ[j]? = some e) := by
    intro j e h
    cases hpj : pos ids' j with
    | some i =>
      have h1 := pos_some hpj
      rw [hat h1] at h
      have hil : i < es.length := by
        rcases Nat.lt_or_ge i es.length with h' | h'
        · exact h'
        · rw [List.getElem?_eq_none h'] at h; cases h
      rw [List.getElem?_eq_getElem hil] at h
      cases h
      exact .inl ⟨i, σ1[i]'(by rw [hes.1]; exact hil), h1, rfl, List.getElem?_eq_getElem _, hes.2 i _ hil⟩
    | none =>
      have h1 := pos_none hpj
      have hjl : j < τ.length := by
        rcases Nat.lt_or_ge j τ.length with h' | h'
        · exact h'
        · exfalso
          have h2 : j < (putAll τ ids es).length := by
            rcases Nat.lt_or_ge j (putAll τ ids es).length with h'' | h''
            · exact h''
            · rw [List.getElem?_eq_none h''] at h; cases h
          rw [putAll_length _ _ _ hlen] at h2
          apply h1
          rw [hids]
          refine List.mem_append.2 (.inr (List.mem_of_getElem? (i := j - τ.length) ?_))
          rw [newIds_get, if_pos (by omega)]; congr 1; omega
      have h3 : j ∉ ids := fun hm => h1 (by rw [hids]; exact List.mem_append.2 (.inl hm))
      rw [putAll_other _ _ _ _ hjl h3] at h
      exact .inr ⟨h1, rfl, h⟩
  have hdis : ∀ {j ver b o : Nat} {x : Box}, j ∉ ids' → τ[j]? = some (ver, some x) → r.ρ j ver = some (b, o) → ¬ Live (r.sub ids) σ b := by
    intro j ver b o x h1 h2 h3 hl
    obtain ⟨i, j2, v2, x2, o2, k1, k2, k3⟩ := sub_live hp hl
    have := hi.inj j j2 ver v2 x x2 b o o2 h2 k2 h3 k3
    subst this
    exact h1 (by rw [hids]; exact List.mem_append.2 (.inl (List.mem_of_getElem? k1)))
  have hsubl : ∀ {b : Nat}, Live (r.sub ids) σ b → Live r τ b := by
    intro b hl
    obtain ⟨i, j, v, x, o, k1, k2, k3⟩ := sub_live hp hl
    exact ⟨j, v, x, o, k2, k3⟩
  have g : Grow r w (r.join r1 ids') w' := by
    refine ⟨hx.S, hx.I, fun id ver p h => ?_, fun b hb => hx.same b (hi.Ilt b hb) (fun hl => hi.imm b (hsubl hl) hb), hx.size⟩
    simp only [Rl.join]
    cases hpj : pos ids' id with
    | none => exact h
    | some i =>
      simp only
      have h1 := pos_some hpj
      obtain ⟨⟨cur, x, k1, _⟩, _⟩ := hi.lt id ver p.1 p.2 h
      have hidl : id < τ.length := by
        rcases Nat.lt_or_ge id τ.length with h' | h'
        · exact h'
        · rw [List.getElem?_eq_none h'] at k1; cases k1
      have h2 : ids[i]? = some id := by
        rw [hids] at h1
        rcases Nat.lt_or_ge i ids.length with h' | h'
        · rwa [List.getElem?_append_left h'] at h1
        · rw [List.getElem?_append_right h', newIds_get] at h1
          split at h1
          · simp only [Option.some.injEq] at h1; omega
          · cases h1
      exact hx.ρ i ver p (by simp only [Rl.sub, h2]; exact h)
  have hlive : ∀ {b : Nat}, Live (r.join r1 ids') (putAll τ ids es) b → Live r1 σ1 b ∨ (∃ (j ver : Nat) (x : Box) (o : Nat), j ∉ ids' ∧ τ[j]? = some (ver, some x) ∧ r.ρ j ver = some (b, o)) := by
    rintro b ⟨j, ver, x, o, h1, h2⟩
    rcases hcase j _ h1 with ⟨i, e0, k1, k2, k3, k4⟩ | ⟨k1, k2, k3⟩
    · simp only [Rl.join, k2] at h2
      cases k4 with
      | live k5 => exact .inl ⟨i, ver, _, o, k3, h2⟩
    · simp only [Rl.join, k2] at h2
      exact .inr ⟨j, ver, x, o, k1, k3, h2⟩
  refine ⟨⟨fun j ver x h => ?_, fun j ver b o h => ?_, fun j j' v v' x x' b o o' h1 h2 h3 h4 => ?_, fun b hb hI => ?_, hi1.Ilt, hi1.SI, hi1.glob⟩, ⟨hx.S, hx.I, hx.Sf, fun b hb => ?_, g.ρ, hx.hs, ?_, fun b hb hnl => hx.same b hb (fun hl => hnl (hsubl hl)), fun b hb => ?_, hx.size, hx.os, hx.output, hx.tape⟩, hup⟩
  · rcases hcase j _ h with ⟨i, e0, k1, k2, k3, k4⟩ | ⟨k1, k2, k3⟩
    · cases k4 with
      | live k5 =>
        rcases hi1.box i ver _ k3 with ⟨b, o, q1, q2⟩ | ⟨q1, ro, q2⟩
        · exact .inl ⟨b, o, by simp only [Rl.join, k2]; exact q1, k5.up (r := r1) (r' := r.join r1 ids') (fun _ h => h) (fun _ h => h) hi1.SI hρ q2⟩
        · refine .inr ⟨by simp only [Rl.join, k2]; exact q1, ?_⟩
          subst q2
          cases k5 with
          | cells h6 => exact ⟨_, by rw [List.eq_nil_of_length_eq_zero h6.1.symm]⟩
    · rcases hi.box j ver x k3 with ⟨b, o, q1, q2⟩ | ⟨q1, q2⟩
      · have hb := (hi.lt _ _ _ _ q1).2
        exact .inl ⟨b, o, by simp only [Rl.join, k2]; exact q1, q2.mono g (hx.same b hb (hdis k1 k3 q1))⟩
      · exact .inr ⟨by simp only [Rl.join, k2]; exact q1, q2⟩
  · simp only [Rl.join] at h
    cases hpj : pos ids' j with
    | some i =>
      rw [hpj] at h
      obtain ⟨⟨cur, x, k1, k2⟩, k3⟩ := hi1.lt i ver b o h
      refine ⟨?_, k3⟩
      have hil : i < σ1.length := by
        rcases Nat.lt_or_ge i σ1.length with h' | h'
        · exact h'
        · rw [List.getElem?_eq_none h'] at k1; cases k1
      have hie : i < es.length := by rw [← hes.1]; exact hil
      have k4 := hes.2 i hil hie
      have k6 : σ1[i] = (cur, x) := by rw [List.getElem?_eq_getElem hil] at k1; exact Option.some.inj k1
      rw [k6] at k4
      have k5 : (putAll τ ids es)[j]? = some es[i] := by rw [hat (pos_some hpj), List.getElem?_eq_getElem hie]
      generalize es[i] = e at k4 k5
      cases k4 with
      | dead => exact ⟨_, _, k5, k2⟩
      | live _ => exact ⟨_, _, k5, k2⟩
    | none =>
      rw [hpj] at h
      obtain ⟨⟨cur, x, k1, k2⟩, k3⟩ := hi.lt j ver b o h
      refine ⟨?_, Nat.lt_of_lt_of_le k3 hx.hs⟩
      have hjl : j < τ.length := by
        rcases Nat.lt_or_ge j τ.length with h' | h'
        · exact h'
        · rw [List.getElem?_eq_none h'] at k1; cases k1
      exact ⟨cur, x, by rw [putAll_other _ _ _ _ hjl (fun hm => pos_none hpj (by rw [hids]; exact List.mem_append.2 (.inl hm)))]; exact k1, k2⟩
  · rcases hcase j _ h1 with ⟨i, e0, k1, k2, k3, k4⟩ | ⟨k1, k2, k3⟩ <;> rcases hcase j' _ h2 with ⟨i', e0', k1', k2', k3', k4'⟩ | ⟨k1', k2', k3'⟩
    · simp only [Rl.join, k2] at h3
      simp only [Rl.join, k2'] at h4
      cases k4 with
      | live k5 => cases k4' with
        | live k5' =>
          have := hi1.inj i i' v v' _ _ b o o' k3 k3' h3 h4
          subst this
          rw [k1] at k1'
          exact Option.some.inj k1'
    · exfalso
      simp only [Rl.join, k2] at h3
      simp only [Rl.join, k2'] at h4
      cases k4 with
      | live k5 =>
        rcases hx.liv b ⟨i, v, _, o, k3, h3⟩ with hl | hl
        · exact hdis k1' k3' h4 hl
        · have := (hi.lt _ _ _ _ h4).2; omega
    · exfalso
      simp only [Rl.join, k2] at h3
      simp only [Rl.join, k2'] at h4
      cases k4' with
      | live k5 =>
        rcases hx.liv b ⟨i', v', _, o', k3', h4⟩ with hl | hl
        · exact hdis k1 k3 h3 hl
        · have := (hi.lt _ _ _ _ h3).2; omega
    · simp only [Rl.join, k2] at h3
      simp only [Rl.join, k2'] at h4
      exact hi.inj j j' v v' x x' b o o' k3 k3' h3 h4
  · rcases hlive hb with h | ⟨j, ver, x, o, k1, k2, k3⟩
    · exact hi1.imm b h hI
    · rcases hx.If b hI with h | h | h
      · exact hi.imm b ⟨j, ver, x, o, k2, k3⟩ h
      · exact hdis k1 k2 k3 h
      · have := (hi.lt _ _ _ _ k3).2; omega
  · rcases hx.If b hb with h | h | h
    · exact .inl h
    · exact .inr (.inl (hsubl h))
    · exact .inr (.inr h)
  · rw [putAll_length _ _ _ hlen]; omega
  · rcases hlive hb with h | ⟨j, ver, x, o, k1, k2, k3⟩
    · rcases hx.liv b h with h | h
      · exact .inl (hsubl h)
      · exact .inr h
    · exact .inl ⟨j, ver, x, o, k2, k3⟩

def ndB : List Nat → Bool
  | [] => true
  | x :: r => match memN x r with | true => false | false => ndB r

theorem memN_iff {x : Nat} : ∀ {l : List Nat}, memN x l = true ↔ x ∈ l
  | [] => by simp [memN]
  | y :: r => by simp [memN, memN_iff (l := r), Nat.beq_eq]

theorem ndB_nodup : ∀ {l : List Nat}, ndB l = true → l.Nodup
  | [], _ => List.nodup_nil
  | x :: r, h => by
    unfold ndB at h
    split at h
    · cases h
    · rename_i hm
      exact List.nodup_cons.2 ⟨fun hx => (by rw [memN_iff.2 hx] at hm; cases hm), ndB_nodup h⟩

def pickAll (τ : Heap) : List Nat → Option Heap
  | [] => some []
  | j :: r => match τ[j]? with
    | some e => match pickAll τ r with
      | some es => some (e :: es)
      | none => none
    | none => none

theorem pickAll_get {τ : Heap} : ∀ {ids : List Nat} {es : Heap}, pickAll τ ids = some es → es.length = ids.length ∧ ∀ (i j : Nat), ids[i]? = some j → ∃ e, τ[j]? = some e ∧ es[i]? = some e
  | [], es, h => by
    simp only [pickAll, Option.some.injEq] at h
    subst h
    exact ⟨rfl, fun i j h => by simp at h⟩
  | j0 :: r, es, h => by
    simp only [pickAll] at h
    split at h
    case h_2 => cases h
    rename_i e he
    split at h
    case h_2 => cases h
    rename_i es' hes
    simp only [Option.some.injEq] at h; subst h
    obtain ⟨h1, h2⟩ := pickAll_get hes
    refine ⟨by simp [h1], fun i j hi => ?_⟩
    cases i with
    | zero => simp only [List.getElem?_cons_zero, Option.some.injEq] at hi; subst hi; exact ⟨e, he, rfl⟩
    | succ i => simpa using h2 i j (by simpa using hi)

theorem Part.mk' {ids : List Nat} {σ τ es : Heap} (hn : ndB ids = true) (hp : pickAll τ ids = some es) (h : RnH ids σ es) : Part ids σ τ := by
  obtain ⟨h1, h2⟩ := pickAll_get hp
  refine ⟨ndB_nodup hn, fun j hj => ?_, by rw [h.1, h1], fun i j e hi hs => ?_⟩
  · obtain ⟨i, hi⟩ := List.getElem?_of_mem hj
    obtain ⟨e, h3, _⟩ := h2 i j hi
    rcases Nat.lt_or_ge j τ.length with h' | h'
    · exact h'
    · rw [List.getElem?_eq_none h'] at h3; cases h3
  · obtain ⟨e', h3, h4⟩ := h2 i j hi
    refine ⟨e', h3, ?_⟩
    have hi1 : i < σ.length := by
      rcases Nat.lt_or_ge i σ.length with h' | h'
      · exact h'
      · rw [List.getElem?_eq_none h'] at hs; cases hs
    have hi2 : i < es.length := by rw [← h.1]; exact hi1
    have := h.2 i hi1 hi2
    rw [List.getElem?_eq_getElem hi1] at hs
    rw [List.getElem?_eq_getElem hi2] at h4
    rw [Option.some.inj hs, Option.some.inj h4] at this
    exact this

section
variable {cx : Cx} {n : Nat} {B : Bs} {k : List AI} {Q : Post} {fr : Fr} {σ : Heap}

/-- A call that touches the boxes 'ids' alone. -/
theorem S_callf {all : Array Oper} {o : Oper} {l : List Oper} {K : List Nat} {f : FuncId} {args args' : List AV} {σs : Heap} {R : Out → Heap → Prop} (ids : List Nat) (hcall : CallOk cx f args σs R) (hc : callA cx fr o.op = some (f, args')) (ha : Rns ids args args') (hp : Part ids σs σ)
    (hg : guardA all o K fr = some true) (hd : dstOk n o.dst = true)
    (hr : ∀ v σ1, R (.ret v) σ1 → ∃ v' es, RnH (ids ++ newIds σ.length (es.length - ids.length)) σ1 es ∧ Rn (ids ++ newIds σ.length (es.length - ids.length)) v v' ∧ S cx n B (.ops all l K :: k) Q (setA o.dst v' fr) (putAll σ ids es))
    (hpn : ∀ v σ1, R (.panic v) σ1 → ∃ v' es, RnH (ids ++ newIds σ.length (es.length - ids.length)) σ1 es ∧ Rn (ids ++ newIds σ.length (es.length - ids.length)) v v' ∧ Q (.panic v') fr (putAll σ ids es)) :
    S cx n B (.ops all (o :: l) K :: k) Q fr σ := by
  intro r a w hi hf hdf hx
  have hw := guardA_wanted (cx := cx) hf hg
  obtain ⟨vs, h1, h2⟩ := callA_run hi hf hc hcall.1
  have hsub := frame_down hi hp
  have hvs : VRels (r.sub ids) w vs args := by
    refine ⟨h2.1.trans ha.1.symm, fun i hi' => ?_⟩
    refine (ha.2 i hi' (by rw [← ha.1]; exact hi')).down (r := r) (r' := r.sub ids) (fun _ h => h) (fun _ h => h) hi.SI (fun i j ver p h1 h2 => ?_) (h2.2 i (by rw [← ha.1]; exact hi'))
    simp only [Rl.sub, h1]; exact h2
  unfold wpList
  rw [if_pos hw]
  refine .inl ?_
  unfold Oper.wp
  rw [h1, Oper.upon_enter]
  refine (hcall.2 _ w vs hsub hvs).mono fun e w' ⟨out, σ1, r1, hR, ho, hi1, hx1⟩ => ?_
  cases e <;> cases out <;> first | exact ho.elim | skip
  · obtain ⟨v', es, k1, k2, k3⟩ := hr _ σ1 hR
    obtain ⟨q1, q2, q3⟩ := frame_up hi hp hi1 hx1 rfl k1
    exact k3 _ _ w' q1 ((hf.mono (q2.grow hi)).setA hd (q3 _ _ _ k2 ho)) (hdf.put _ _) (hx.trans q2)
  · obtain ⟨v', es, k1, k2, k3⟩ := hpn _ σ1 hR
    obtain ⟨q1, q2, q3⟩ := frame_up hi hp hi1 hx1 rfl k1
    obtain ⟨u, hu1, hu2⟩ := ho
    refine Lift.mk (ae := .panic _) ?_ ⟨u, hu1, q3 _ _ _ k2 hu2⟩ q1 (hf.mono (q2.grow hi)) hdf (hx.trans q2)
    rw [after_panic]
    exact k3

/-- A box that is needed no more. -/
theorem S_drop {todo : List AI} {id cur : Nat} {y : Option Box} (h : σ[id]? = some (cur, y)) (hk : S cx n B todo Q fr (σ.set id (cur, none))) (hT : ∃ c k, todo = .code c :: k ∨ ∃ all l K, todo = .ops all l K :: k) : S cx n B todo Q fr σ := by
  obtain ⟨c, k, hT⟩ := hT
  rcases hT with rfl | ⟨all, l, K, rfl⟩
  · intro r a w hi hf hd hx
    obtain ⟨q1, q2⟩ := hi.kill (w' := w) h (fun _ _ => rfl) rfl (fun b c t f h => ⟨c, f, h, rfl⟩) rfl rfl rfl
    exact hk r a w q1 (hf.mono (q2.grow hi)) hd (hx.trans q2)
  · intro r a w hi hf hd hx
    obtain ⟨q1, q2⟩ := hi.kill (w' := w) h (fun _ _ => rfl) rfl (fun b c t f h => ⟨c, f, h, rfl⟩) rfl rfl rfl
    exact hk r a w q1 (hf.mono (q2.grow hi)) hd (hx.trans q2)

end
end Go.Ab
