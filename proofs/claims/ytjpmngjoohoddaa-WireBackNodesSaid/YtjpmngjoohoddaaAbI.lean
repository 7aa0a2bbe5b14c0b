/-
  append, as an abstract operation.
-/
import Derived.Test.YtjpmngjoohoddaaAbH
set_option linter.unusedVariables false
set_option linter.unusedSimpArgs false
namespace Go.Ab
open Go

/-- An address goes on as one of which nothing is known but that nothing lies there. -/
theorem Inv.ghost {cx : Cx} {r : Rl} {σ σ' : Heap} {w : World} {id ver : Nat} {ro : Tag} (hi : Inv cx r σ w) (hσ : σ'[id]? = some (ver, some (.cells [] ro))) (hσo : ∀ j, j ≠ id → σ'[j]? = σ[j]?)
    (hold : ∀ cur y, σ[id]? = some (cur, y) → cur < ver) : Inv cx r σ' w ∧ Ext r σ w r σ' w := by
  have hlenle : σ.length ≤ σ'.length := by
    rcases Nat.lt_or_ge σ'.length σ.length with h | h
    · exfalso
      by_cases hid : σ'.length = id
      · have := List.getElem?_eq_none (l := σ') (i := id) (by omega)
        rw [this] at hσ; cases hσ
      · have h1 := hσo _ hid
        rw [List.getElem?_eq_none (Nat.le_refl _)] at h1
        rw [List.getElem?_eq_getElem h] at h1
        cases h1
    · exact h
  have hnone : r.ρ id ver = none := by
    cases hp : r.ρ id ver with
    | none => rfl
    | some p =>
      obtain ⟨b, o⟩ := p
      obtain ⟨⟨cur, x, h1, h2⟩, _⟩ := hi.lt _ _ _ _ hp
      have := hold _ _ h1
      omega
  have hlive : ∀ b, Live r σ' b → Live r σ b := by
    rintro b ⟨j, v, x, o, h1, h2⟩
    by_cases hj : j = id
    · subst hj
      rw [hσ] at h1
      simp only [Option.some.injEq, Prod.mk.injEq] at h1
      obtain ⟨rfl, rfl⟩ := h1
      rw [hnone] at h2; cases h2
    · rw [hσo j hj] at h1
      exact ⟨j, v, x, o, h1, h2⟩
  refine ⟨⟨?_, ?_, ?_, fun b hb => hi.imm b (hlive b hb), hi.Ilt, hi.SI, hi.glob⟩, ⟨fun _ h => h, fun _ h => h, fun _ h => .inl h, fun _ h => .inl h, fun _ _ _ h => h, Nat.le_refl _, hlenle, fun _ _ _ => rfl, fun b hb => .inl (hlive b hb), fun _ c _ f h => ⟨c, f, h, rfl⟩, rfl, rfl, rfl⟩⟩
  · intro j v x h
    by_cases hj : j = id
    · subst hj
      rw [hσ] at h
      simp only [Option.some.injEq, Prod.mk.injEq] at h
      obtain ⟨rfl, rfl⟩ := h
      exact .inr ⟨hnone, _, rfl⟩
    · rw [hσo j hj] at h
      exact hi.box j v x h
  · intro j v b o h
    obtain ⟨⟨cur, x, h1, h2⟩, h3⟩ := hi.lt j v b o h
    refine ⟨?_, h3⟩
    by_cases hj : j = id
    · subst hj
      have := hold _ _ h1
      exact ⟨ver, _, hσ, by omega⟩
    · exact ⟨cur, x, by rw [hσo j hj]; exact h1, h2⟩
  · intro j j' v v' x x' b o o' h1 h2 h3 h4
    have hj : j ≠ id := by
      intro e; subst e
      rw [hσ] at h1
      simp only [Option.some.injEq, Prod.mk.injEq] at h1
      obtain ⟨rfl, rfl⟩ := h1
      rw [hnone] at h3; cases h3
    have hj' : j' ≠ id := by
      intro e; subst e
      rw [hσ] at h2
      simp only [Option.some.injEq, Prod.mk.injEq] at h2
      obtain ⟨rfl, rfl⟩ := h2
      rw [hnone] at h4; cases h4
    rw [hσo j hj] at h1
    rw [hσo j' hj'] at h2
    exact hi.inj _ _ _ _ _ _ _ _ _ h1 h2 h3 h4

def notInt (P : Program) (t : TypeId) : Bool :=
  match P.underlying t with
  | some (.int _) => false
  | some _ => true
  | none => false

theorem notInt_some {P : Program} {t : TypeId} (h : notInt P t = true) : ∃ d, P.underlying t = some d ∧ ∀ k, d ≠ .int k := by
  unfold notInt at h
  split at h
  · cases h
  · rename_i d hn hu; exact ⟨d, hu, hn⟩
  · cases h

/-- The element type of a slice type: its number, size and bytes; its zero has as many cells. -/
def elemInfo (P : Program) (t : TypeId) : Option (TypeId × Nat × Nat) :=
  match P.underlying t with
  | some (.slice e) => match P.info? e with
    | some i => match i.zero with
      | some z => bif Nat.beq z.cells.size i.size then some (e, i.size, i.bytes) else none
      | none => none
    | none => none
  | _ => none

theorem elemInfo_some {P : Program} {t e : TypeId} {n m : Nat} (h : elemInfo P t = some (e, n, m)) : ∃ i z, P.underlying t = some (.slice e) ∧ P.info? e = some i ∧ i.zero = some z ∧ z.cells.size = n ∧ i.size = n ∧ i.bytes = m := by
  unfold elemInfo at h
  split at h
  · rename_i e' hu
    split at h
    · rename_i i hi
      split at h
      · rename_i z hz
        cases hb : Nat.beq z.cells.size i.size with
        | false => rw [hb] at h; cases h
        | true =>
          rw [hb] at h
          simp only [cond_true, Option.some.injEq, Prod.mk.injEq] at h
          obtain ⟨rfl, rfl, rfl⟩ := h
          exact ⟨i, z, hu, hi, hz, Nat.eq_of_beq_eq_true hb, rfl, rfl⟩
      · cases h
    · cases h
  · cases h

def aAppend (P : Program) (sT xT : TypeId) (s x : AV) (σ : Heap) : Option (List Prop × AV × Heap) :=
  match elemInfo P sT with
  | some (e, sz, by_) => bif notInt P xT then
      match aSrc sz x σ with
      | some (C, n, ys) => match s with
        | .nils => match allocH σ (.cells ys ⟨false, tyU8 P e⟩) with
          | (id, ver, σ') => some (C ++ [∀ y ∈ ys, y.one = true, n * by_ ≤ 140737488355328, n ≤ 9223372036854775807], .ms id ver 0 n sz false, σ')
        | .sl _ fl s' xs => match fl with
          | true => match allocH σ (.cells (flatA sz xs ++ ys) ⟨false, tyU8 P e⟩) with
            | (id, ver, σ') => some (C ++ [∀ y ∈ ys, y.one = true, s' = sz, ∀ y ∈ flatA sz xs, y.one = true, n ≠ 0 ∨ xs = [], (xs.length + n) * by_ ≤ 140737488355328, xs.length + n ≤ 9223372036854775807], .ms id ver 0 (xs.length + n) sz false, σ')
          | false => none
        | .ms id ver off len s' fl => match σ[id]? with
          | some (cur, some (.cells cs ro)) => match fl with
            | false => some (C ++ [∀ y ∈ ys, y.one = true, ver = cur, s' = sz, off + len * sz = cs.length, (len + n) * by_ ≤ 140737488355328, len + n ≤ 9223372036854775807], .ms id (cur + 1) 0 (len + n) sz false,
                σ.set id (cur + 1, some (.cells (dropA off cs ++ ys) (tagOn P e off ro))))
            | true => match allocH σ (.cells ((dropA off cs).take (len * sz) ++ ys) ⟨false, tyU8 P e⟩) with
              | (id', ver', σ') => some (C ++ [∀ y ∈ ys, y.one = true, ver = cur, s' = sz, off + len * sz ≤ cs.length, n ≠ 0 ∨ len = 0, (len + n) * by_ ≤ 140737488355328, len + n ≤ 9223372036854775807], .ms id' ver' 0 (len + n) sz false, σ')
          | _ => none
        | _ => none
      | none => none
    else none
  | none => none

theorem AllP_append {C D : List Prop} (h : AllP (C ++ D)) : AllP C ∧ AllP D := by
  induction C with
  | nil => exact ⟨trivial, h⟩
  | cons p r ih => exact ⟨⟨h.1, (ih h.2).1⟩, (ih h.2).2⟩

theorem vals_get {r : Rl} {w : World} {vs : List Value} {ys : List AV} (h : Vals r w vs ys) (i : Nat) (hi : i < ys.length) : ∃ v, vs[i]? = some v ∧ VRel r w v ys[i] := h.2 i hi

/-- What append makes where there is no room: a new block with the old and the new cells. -/
theorem append_fresh {cx : Cx} {r : Rl} {σ σ' : Heap} {w : World} {id ver need cap sz : Nat} {olds news : List Value} {os ys : List AV} {rest : Array Value} {e : TypeId} (hi : Inv cx r σ w)
    (hid : ∃ ro, σ'[id]? = some (ver, some (.cells (os ++ ys) ro)) ∧ ∀ T, ro.ty = some T → e = T) (hσo : ∀ j, j ≠ id → σ'[j]? = σ[j]?) (hold : ∀ cur y, σ[id]? = some (cur, y) → cur < ver)
    (ho : Vals r w olds os) (hn : Vals r w news ys) (h1 : ∀ y ∈ os, y.one = true) (h2 : ∀ y ∈ ys, y.one = true) (hlen : (os ++ ys).length = need * sz) (hcap : need ≤ cap) (hrest : rest.size = (cap - need) * sz) :
    ∃ r', VRel r' (w.drew.alloc (.cells (olds.toArray ++ news.toArray ++ rest) e)) (.slice (some ⟨w.heap.size, 0, none⟩) need cap) (.ms id ver 0 need sz false) ∧
      Inv cx r' σ' (w.drew.alloc (.cells (olds.toArray ++ news.toArray ++ rest) e)) ∧ Ext r σ w r' σ' (w.drew.alloc (.cells (olds.toArray ++ news.toArray ++ rest) e)) := by
  obtain ⟨ro, hid', hty⟩ := hid
  have hself : (w.drew.alloc (.cells (olds.toArray ++ news.toArray ++ rest) e)).heap[w.heap.size]? = some (.cells (olds.toArray ++ news.toArray ++ rest) e) := heap_alloc_self w.drew _
  have hu := hi.update (σ' := σ') (id := id) (ver := ver) (b := w.heap.size) (o := 0) (x := .cells (os ++ ys) ro) (w' := w.drew.alloc (.cells (olds.toArray ++ news.toArray ++ rest) e)) hid' hσo (fun c y h => .inl (hold c y h)) (.inl (Nat.le_refl _))
    (fun k hk _ => by
      show (w.heap.push _)[k]? = w.heap[k]?
      rw [Array.getElem?_push, if_neg (by omega)]) (by simp) (fun c t f h => by simp [Array.getElem?_eq_none (Nat.le_refl w.heap.size)] at h) rfl rfl rfl
    (fun g => by
      refine ⟨_, e, 0, 0, hself, fun i hil => ?_, fun y hy => ?_, fun i a b => by omega, fun T h => ⟨hty T h, rfl⟩⟩
      · rw [Nat.zero_add]
        by_cases hio : i < os.length
        · obtain ⟨v, q1, q2⟩ := ho.2 i hio
          refine ⟨v, ?_, ?_⟩
          · rw [Array.append_assoc, Array.getElem?_append_left (by simp [ho.1]; exact hio)]
            simpa using q1
          · rw [List.getElem_append_left hio]; exact q2.mono g
        · have hil2 := hil
          simp only [List.length_append] at hil2
          obtain ⟨v, q1, q2⟩ := hn.2 (i - os.length) (by omega)
          refine ⟨v, ?_, ?_⟩
          · rw [Array.append_assoc, Array.getElem?_append_right (by simp [ho.1]; omega), Array.getElem?_append_left (by simp [ho.1, hn.1]; omega)]
            simpa [ho.1] using q1
          · rw [List.getElem_append_right (by omega)]; exact q2.mono g
      · rcases List.mem_append.1 hy with h | h
        · exact h1 y h
        · exact h2 y h)
  refine ⟨_, ?_, hu.1, hu.2⟩
  have hv := VRel.ms (r := r.bind id ver (w.heap.size, 0)) (w := w.drew.alloc (.cells (olds.toArray ++ news.toArray ++ rest) e)) (id := id) (ver := ver) (b := w.heap.size) (o := 0) (off := 0) (n := need) (cap := cap) (sz := sz) (full := false)
    (by simp [Rl.bind]) ⟨_, e, _, hself, by
      simp only [Array.size_append, List.size_toArray, ho.1, hn.1, hrest]
      simp only [List.length_append] at hlen
      rw [hlen, ← Nat.add_mul]
      have := Nat.mul_le_mul_right sz (show cap ≤ need + (cap - need) by omega)
      omega⟩ hcap (fun h => by cases h)
  exact hv

theorem aAppend_run {cx : Cx} {r : Rl} {σ σ' : Heap} {w : World} {sT xT ty : TypeId} {s x : Value} {s' x' v : AV} {C : List Prop} (hi : Inv cx r σ w) (h : aAppend cx.P sT xT s' x' σ = some (C, v, σ')) (hC : AllP C)
    (hs : VRel r w s s') (hx : VRel r w x x') :
    ∃ v' w' r', (Builtin.append_ #[sT, xT] ty #[s, x]).run cx.P w = .ok v' w' ∧ VRel r' w' v' v ∧ Inv cx r' σ' w' ∧ Ext r σ w r' σ' w' := by
  unfold aAppend at h
  split at h
  case h_2 => cases h
  rename_i e sz by_ hel
  obtain ⟨i, z, hu, hinfo, hz, hz1, hz2, hz3⟩ := elemInfo_some hel
  cases hnt : notInt cx.P xT with
  | false => rw [hnt] at h; cases h
  | true =>
  rw [hnt] at h
  simp only [cond_true] at h
  obtain ⟨d, hd, hdk⟩ := notInt_some hnt
  split at h
  case h_2 => cases h
  rename_i C0 n ys hsrc
  split at h
  · -- nil
    generalize hal : allocH σ _ = al at h
    obtain ⟨id, ver, σ1⟩ := al
    simp only [Option.some.injEq, Prod.mk.injEq] at h; obtain ⟨rfl, rfl, rfl⟩ := h
    obtain ⟨hC0, hone, hb, h63, _⟩ := AllP_append hC
    obtain ⟨hl1, hl2, news, hl3, hl4⟩ := aSrc_run hi hsrc hC0 hx
    obtain ⟨ha1, ha2, ha3⟩ := allocH_spec hal
    cases hs
    by_cases hn0 : n = 0
    · subst hn0
      have hys : ys = [] := List.eq_nil_of_length_eq_zero (by rw [hl2]; simp)
      subst hys
      have hnews : news = [] := List.eq_nil_of_length_eq_zero hl3.1
      subst hnews
      have hr := run_append_room' (P := cx.P) (w := w) (ty := ty) (base := none) (sLen := 0) (sCap := 0) hu hd hdk hinfo hz2 hl1 hl4 (by omega) (w2 := w) rfl
      obtain ⟨g1, g2⟩ := hi.ghost ha1 ha2 ha3
      exact ⟨_, w, r, hr, .ms0, g1, g2⟩
    · have hf0 : ∀ w' : World, w'.heap = w.heap → (Builtin.firstCells sz 0 (.slice none 0 0)).run cx.P w' = .ok ([] : List Value).toArray w' := fun w' _ => by simp [Builtin.firstCells]
      obtain ⟨rest, cap, hr1, hr2, hr3⟩ := run_append_grow' (P := cx.P) (w := w) (ty := ty) (base := none) (sLen := 0) (sCap := 0) hu hd hdk hinfo hz hz2 hl1 hf0 hl4 (by omega) (by rw [hz3]; simpa using hb) (by omega)
      rw [hz1] at hr3
      have hv0 : Vals r w [] [] := ⟨rfl, fun i h => absurd h (by simp)⟩
      obtain ⟨r', k1, k2, k3⟩ := append_fresh (sz := sz) (e := e) hi ⟨_, ha1, fun T h => tyU8_eq h⟩ ha2 ha3 hv0 hl3 (by simp) hone (by simpa using hl2) (need := 0 + n) (by simpa using hr2) (by simpa using hr3)
      refine ⟨_, _, r', hr1, ?_, k2, k3⟩
      simpa using k1
  · -- what bears its contents
    rename_i st fl s0 xs
    split at h
    case h_2 => cases h
    generalize hal : allocH σ _ = al at h
    obtain ⟨id, ver, σ1⟩ := al
    simp only [Option.some.injEq, Prod.mk.injEq] at h; obtain ⟨rfl, rfl, rfl⟩ := h
    obtain ⟨hC0, hone, hsz0, hone2, hne, hb, h63, _⟩ := AllP_append hC
    subst hsz0
    obtain ⟨hl1, hl2, news, hl3, hl4⟩ := aSrc_run hi hsrc hC0 hx
    obtain ⟨ha1, ha2, ha3⟩ := allocH_spec hal
    cases s with
    | slice a n' cap =>
      obtain ⟨q1, q2, q3, q4⟩ := sl_cells hs
      have hcap := q3 rfl
      subst hcap; subst q1
      have hfl := flatA_eq hone2
      by_cases hn0 : n = 0
      · subst hn0
        have hxs : xs = [] := by rcases hne with h | h; exact absurd rfl h; exact h
        subst hxs
        have hys : ys = [] := List.eq_nil_of_length_eq_zero (by rw [hl2]; simp)
        subst hys
        have hnews : news = [] := List.eq_nil_of_length_eq_zero hl3.1
        subst hnews
        have hst := stO_nil cx.P w a (0 * s0)
        have hr := run_append_room' (P := cx.P) (w := w) (ty := ty) (base := a) (sLen := 0) (sCap := 0) hu hd hdk hinfo hz2 hl1 hl4 (by omega) (w2 := w) hst
        have hbx : (flatA s0 [] ++ ([] : List AV)) = [] := by rw [hfl]; rfl
        rw [hbx] at ha1
        obtain ⟨g1, g2⟩ := hi.ghost ha1 ha2 ha3
        exact ⟨_, w, r, hr, .ms0, g1, g2⟩
      · have hsrc2 : aSrc s0 (.sl st true s0 xs) σ = some ([s0 = s0, ∀ y ∈ flatA s0 xs, y.one = true], xs.length, flatA s0 xs) := rfl
        obtain ⟨m1, m2, olds, m3, m4⟩ := aSrc_run hi hsrc2 ⟨rfl, hone2, trivial⟩ hs
        obtain ⟨rest, cap, hr1, hr2, hr3⟩ := run_append_grow' (P := cx.P) (w := w) (ty := ty) (base := a) (sLen := xs.length) (sCap := xs.length) hu hd hdk hinfo hz hz2 hl1 m4 hl4 (by omega) (by rw [hz3]; exact hb) (by omega)
        rw [hz1] at hr3
        obtain ⟨r', k1, k2, k3⟩ := append_fresh (sz := s0) (e := e) hi ⟨_, ha1, fun T h => tyU8_eq h⟩ ha2 ha3 m3 hl3 hone2 hone (by rw [List.length_append, m2, hl2, Nat.add_mul]) (need := xs.length + n) hr2 hr3
        exact ⟨_, _, r', hr1, k1, k2, k3⟩
    | _ => cases hs
  · -- what lies in a box
    rename_i id ver off len s0 fl
    split at h
    case h_2 => cases h
    rename_i cur cs ro hσ
    split at h
    · simp only [Option.some.injEq, Prod.mk.injEq] at h; obtain ⟨rfl, rfl, rfl⟩ := h
      obtain ⟨hC0, hone, hv0, hsz0, htip, hb, h63, _⟩ := AllP_append hC
      subst hsz0; subst hv0
      obtain ⟨hl1, hl2, news, hl3, hl4⟩ := aSrc_run hi hsrc hC0 hx
      have hid : id < σ.length := by
        rcases Nat.lt_or_ge id σ.length with h | h
        · exact h
        · rw [List.getElem?_eq_none h] at hσ; cases hσ
      have ha1 : (σ.set id (ver + 1, some (.cells (dropA off cs ++ ys) (tagOn cx.P e off ro))))[id]? = some (ver + 1, some (.cells (dropA off cs ++ ys) (tagOn cx.P e off ro))) := by simp [hid]
      have ha2 : ∀ j, j ≠ id → (σ.set id (ver + 1, some (.cells (dropA off cs ++ ys) (tagOn cx.P e off ro))))[j]? = σ[j]? := fun j hj => by rw [List.getElem?_set, if_neg (Ne.symm hj)]
      have ha3 : ∀ cur y, σ[id]? = some (cur, y) → cur < ver + 1 := fun c y hy => by rw [hσ] at hy; simp only [Option.some.injEq, Prod.mk.injEq] at hy; omega
      have hdl : (dropA off cs).length = len * s0 := by rw [dropA_eq, List.length_drop]; omega
      have hbx : boxAt σ id = some (ver, cs, ro) := by simp [boxAt, hσ]
      have hcsone : ∀ y ∈ dropA off cs, y.one = true := by
        intro y hy
        rw [dropA_eq] at hy
        have hy' := List.mem_of_mem_drop hy
        rcases hi.box id ver _ hσ with ⟨b', o', h1, h2⟩ | ⟨h1, ro', h2⟩
        · obtain ⟨c, t, lo, hi', q1, q2, q3, q4⟩ := h2
          exact q3 y hy'
        · cases h2; cases hy'
      cases hs with
      | ms0 =>
        rename_i a
        have hdn : dropA off cs = [] := List.eq_nil_of_length_eq_zero (by rw [hdl]; simp)
        rw [hdn] at ha1 ⊢
        by_cases hn0 : n = 0
        · subst hn0
          have hys : ys = [] := List.eq_nil_of_length_eq_zero (by rw [hl2]; simp)
          subst hys
          have hnews : news = [] := List.eq_nil_of_length_eq_zero hl3.1
          subst hnews
          have hst := stO_nil cx.P w a (0 * s0)
          have hr := run_append_room' (P := cx.P) (w := w) (ty := ty) (base := a) (sLen := 0) (sCap := 0) hu hd hdk hinfo hz2 hl1 hl4 (by omega) (w2 := w) hst
          rw [hdn] at ha2
          obtain ⟨g1, g2⟩ := hi.ghost ha1 ha2 ha3
          exact ⟨_, w, r, hr, .ms0, g1, g2⟩
        · have hf0 : ∀ w' : World, w'.heap = w.heap → (Builtin.firstCells s0 0 (.slice a 0 0)).run cx.P w' = .ok ([] : List Value).toArray w' := fun w' _ => by
            cases a with
            | none => simp [Builtin.firstCells]
            | some a => simp [Builtin.firstCells, loadCells, loadCellsFrom]
          obtain ⟨rest, cap, hr1, hr2, hr3⟩ := run_append_grow' (P := cx.P) (w := w) (ty := ty) (base := a) (sLen := 0) (sCap := 0) hu hd hdk hinfo hz hz2 hl1 hf0 hl4 (by omega) (by rw [hz3]; exact hb) (by omega)
          rw [hz1] at hr3
          have hv0 : Vals r w [] [] := ⟨rfl, fun i h => absurd h (by simp)⟩
          rw [hdn] at ha2
          obtain ⟨r', k1, k2, k3⟩ := append_fresh (sz := s0) (e := e) (os := []) hi ⟨_, ha1, fun T h => (tagOn_ty h).2.2⟩ ha2 ha3 hv0 hl3 (by simp) hone (by simpa using hl2) (need := 0 + n) hr2 hr3
          exact ⟨_, _, r', hr1, k1, k2, k3⟩
      | ms hρ hcap hle hff =>
        rename_i b o cap
        have hbr := hi.cells hbx rfl hρ
        have hcl := hbr.cells'.drop off
        rw [← dropA_eq] at hcl
        by_cases hroom : len + n ≤ cap
        · obtain ⟨c, ty0, lo, hi', q1, q2, q3, q4, q5⟩ := hbr
          obtain ⟨c2, t2, f2, p1, p2⟩ := hcap
          rw [q1] at p1
          simp only [Option.some.injEq, Obj.cells.injEq] at p1
          obtain ⟨rfl, rfl, rfl⟩ := p1
          have hnl : news.length = n * s0 := by rw [hl3.1, hl2]
          have hfit : len * s0 + n * s0 ≤ cap * s0 := by rw [← Nat.add_mul]; exact Nat.mul_le_mul_right _ hroom
          have hcell : ∀ j, j < news.length → (w.cell? ⟨b, (o + off + len * s0) + j, none⟩).isSome = true ∧ w.frozen? ⟨b, (o + off + len * s0) + j, none⟩ = false := by
            intro j hj
            have hlt : o + off + len * s0 + j < c.size := by omega
            refine ⟨by simp [World.cell?, q1, hlt], ?_⟩
            simp only [World.frozen?, q1]
            by_cases hf : lo ≤ o + off + len * s0 + j ∧ o + off + len * s0 + j < hi'
            · have := (q4 _ hf.1 hf.2 hlt).2; omega
            · simp only [Bool.and_eq_false_iff, decide_eq_false_iff_not]
              by_cases h1 : lo ≤ o + off + len * s0 + j
              · right; intro h2; exact hf ⟨h1, h2⟩
              · left; exact h1
          have hstore := run_storeCells_cells (P := cx.P) b (o + off + len * s0) news 0 w (fun j hj => by simpa using (hcell j hj).1) (fun j hj => by simpa using (hcell j hj).2) (hl3.one hone)
          simp only [Nat.add_zero] at hstore
          have hr := run_append_room' (P := cx.P) (w := w) (ty := ty) (base := some ⟨b, o + off, none⟩) (sLen := len) (sCap := cap) hu hd hdk hinfo hz2 hl1 hl4 hroom (w2 := w.setCells b (o + off + len * s0) news) (by
            simp only [stO, Addr.add_lit]; exact hstore)
          obtain ⟨c', h1, h2, h3, h4, h5, h6, h7, h8⟩ := setCells_heap b news (o + off + len * s0) w c ty0 (lo, hi') q1 (by omega)
          have hup := hi.update (id := id) (ver := ver + 1) (b := b) (o := o + off) (w' := w.setCells b (o + off + len * s0) news) ha1 ha2 (fun c y hy => .inl (ha3 c y hy)) (.inr ⟨ver, _, o, hσ, hρ⟩)
            (fun k hk hkb => h4 k hkb) (by rw [h5]; exact Nat.le_refl _)
            (fun c3 t3 f3 hc3 => by rw [q1] at hc3; simp only [Option.some.injEq, Obj.cells.injEq] at hc3; obtain ⟨rfl, rfl, rfl⟩ := hc3; exact ⟨c', _, h1, h2⟩) h6 h7 h8
            (fun g => by
              refine ⟨c', ty0, lo, hi', h1, fun k hk => ?_, fun y hy => ?_, fun k a1 a2 a3 => ?_, fun T h => ?_⟩
              · simp only [List.length_append] at hk
                rw [h3]
                by_cases hkl : k < (dropA off cs).length
                · rw [if_neg (by omega)]
                  rw [List.getElem_append_left hkl]
                  have hk2 : off + k < cs.length := by omega
                  obtain ⟨u, e1, e2⟩ := q2 (off + k) hk2
                  refine ⟨u, by rw [← e1]; congr 1; omega, ?_⟩
                  have : (dropA off cs)[k] = cs[off + k] := by simp [dropA_eq]
                  rw [this]
                  exact e2.mono g
                · rw [if_pos (by omega)]
                  rw [List.getElem_append_right (by omega)]
                  obtain ⟨u, e1, e2⟩ := hl3.2 (k - (dropA off cs).length) (by omega)
                  exact ⟨u, by rw [← e1]; congr 1; omega, e2.mono g⟩
              · rcases List.mem_append.1 hy with h | h
                · exact hcsone y h
                · exact hone y h
              · rw [h2] at a3
                obtain ⟨z1, z2⟩ := q4 k a1 a2 a3
                refine ⟨z1, ?_⟩
                rw [List.length_append, hdl]
                omega
              · obtain ⟨z1, z2, z3⟩ := tagOn_ty h
                obtain ⟨z4, z5⟩ := q5 T z2
                exact ⟨z4, by omega⟩)
          refine ⟨_, _, _, hr, ?_, hup.1, hup.2⟩
          have hv := VRel.ms (r := r.bind id (ver + 1) (b, o + off)) (w := w.setCells b (o + off + len * s0) news) (id := id) (ver := ver + 1) (b := b) (o := o + off) (off := 0) (n := len + n) (cap := cap) (sz := s0) (full := false)
            (by simp [Rl.bind]) ⟨c', ty0, _, h1, by rw [h2]; omega⟩ hroom (fun h => by cases h)
          exact hv
        · have hsrc2 : aSrc s0 (.ms id ver off len s0 false) σ = some ([ver = ver, s0 = s0, off + len * s0 ≤ cs.length], len, (dropA off cs).take (len * s0)) := by simp [aSrc, hbx]
          obtain ⟨m1, m2, olds, m3, m4⟩ := aSrc_run hi hsrc2 ⟨rfl, rfl, by omega, trivial⟩ (VRel.ms hρ hcap hle hff)
          have htk : (dropA off cs).take (len * s0) = dropA off cs := List.take_of_length_le (by omega)
          rw [htk] at m2 m3
          obtain ⟨rest, cap', hr1, hr2, hr3⟩ := run_append_grow' (P := cx.P) (w := w) (ty := ty) (base := some ⟨b, o + off, none⟩) (sLen := len) (sCap := cap) hu hd hdk hinfo hz hz2 hl1
            (fun w' hw' => m4 w' hw') hl4 (by omega) (by rw [hz3]; exact hb) (by omega)
          rw [hz1] at hr3
          obtain ⟨r', k1, k2, k3⟩ := append_fresh (sz := s0) (e := e) hi ⟨_, ha1, fun T h => (tagOn_ty h).2.2⟩ ha2 ha3 m3 hl3 hcsone hone (by rw [List.length_append, m2, hl2, Nat.add_mul]) (need := len + n) hr2 hr3
          exact ⟨_, _, r', hr1, k1, k2, k3⟩
    · generalize hal : allocH σ _ = al at h
      obtain ⟨id', ver', σ1⟩ := al
      simp only [Option.some.injEq, Prod.mk.injEq] at h; obtain ⟨rfl, rfl, rfl⟩ := h
      obtain ⟨hC0, hone, hv0, hsz0, htip, hne, hb, h63, _⟩ := AllP_append hC
      subst hsz0; subst hv0
      obtain ⟨hl1, hl2, news, hl3, hl4⟩ := aSrc_run hi hsrc hC0 hx
      obtain ⟨ha1, ha2, ha3⟩ := allocH_spec hal
      have hbx : boxAt σ id = some (ver, cs, ro) := by simp [boxAt, hσ]
      have hcsone : ∀ y ∈ (dropA off cs).take (len * s0), y.one = true := by
        intro y hy
        rw [dropA_eq] at hy
        have hy' := List.mem_of_mem_drop (List.mem_of_mem_take hy)
        rcases hi.box id ver _ hσ with ⟨b', o', h1, h2⟩ | ⟨h1, ro', h2⟩
        · obtain ⟨c, t, lo, hi', q1, q2, q3, q4⟩ := h2
          exact q3 y hy'
        · cases h2; cases hy'
      have hsrc2 : aSrc s0 (.ms id ver off len s0 true) σ = some ([ver = ver, s0 = s0, off + len * s0 ≤ cs.length], len, (dropA off cs).take (len * s0)) := by simp [aSrc, hbx]
      obtain ⟨m1, m2, olds, m3, m4⟩ := aSrc_run hi hsrc2 ⟨rfl, rfl, by omega, trivial⟩ hs
      have hs' : ∃ a, s = .slice a len len := by
        cases hs with
        | ms0 => exact ⟨_, rfl⟩
        | ms hρ hcap hle hff => rw [hff rfl]; exact ⟨_, rfl⟩
      obtain ⟨a, rfl⟩ := hs'
      by_cases hn0 : n = 0
      · subst hn0
        have hlen0 : len = 0 := by rcases hne with h | h; exact absurd rfl h; exact h
        subst hlen0
        have hys : ys = [] := List.eq_nil_of_length_eq_zero (by rw [hl2]; simp)
        subst hys
        have hnews : news = [] := List.eq_nil_of_length_eq_zero hl3.1
        subst hnews
        have hst := stO_nil cx.P w a (0 * s0)
        have hr := run_append_room' (P := cx.P) (w := w) (ty := ty) (base := a) (sLen := 0) (sCap := 0) hu hd hdk hinfo hz2 hl1 hl4 (by omega) (w2 := w) hst
        have hz : (dropA off cs).take (0 * s0) ++ ([] : List AV) = [] := by simp
        rw [hz] at ha1
        obtain ⟨g1, g2⟩ := hi.ghost ha1 ha2 ha3
        exact ⟨_, w, r, hr, .ms0, g1, g2⟩
      · obtain ⟨rest, cap', hr1, hr2, hr3⟩ := run_append_grow' (P := cx.P) (w := w) (ty := ty) (base := a) (sLen := len) (sCap := len) hu hd hdk hinfo hz hz2 hl1
          m4 hl4 (by omega) (by rw [hz3]; exact hb) (by omega)
        rw [hz1] at hr3
        obtain ⟨r', k1, k2, k3⟩ := append_fresh (sz := s0) (e := e) hi ⟨_, ha1, fun T h => tyU8_eq h⟩ ha2 ha3 m3 hl3 hcsone hone (by rw [List.length_append, m2, hl2, Nat.add_mul]) (need := len + n) hr2 hr3
        exact ⟨_, _, r', hr1, k1, k2, k3⟩
  · cases h

end Go.Ab
