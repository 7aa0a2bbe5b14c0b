/-
  How the abstract heap and the concrete one turn together: a new box, a store, an append, a block that nobody writes any more.
-/
import Derived.Test.YtjpmngjoohoddaaAbA
set_option linter.unusedVariables false
set_option linter.unusedSimpArgs false
namespace Go.Ab
open Go

def Rl.bind (r : Rl) (id ver : Nat) (p : Nat × Nat) : Rl := { r with ρ := fun i v => if i = id ∧ v = ver then some p else r.ρ i v }

theorem BoxRel.lt {r : Rl} {w : World} {b o : Nat} {x : Box} (h : BoxRel r w b o x) : b < w.heap.size := by
  have : ∃ y, w.heap[b]? = some y := by
    cases x with
    | cells cs ro => obtain ⟨c, t, lo, hi, h1, _⟩ := h; exact ⟨_, h1⟩
    | map kvs => obtain ⟨_, es, clock, h1, _⟩ := h; exact ⟨_, h1⟩
    | siter s pos => obtain ⟨_, bs, _, h1⟩ := h; exact ⟨_, h1⟩
  obtain ⟨y, hy⟩ := this
  rcases Nat.lt_or_ge b w.heap.size with h | h
  · exact h
  · simp [Array.getElem?_eq_none h] at hy

/-- One id turns: it is new, or its box is written, or it goes on as a new version. -/
theorem Inv.update {cx : Cx} {r : Rl} {σ σ' : Heap} {w w' : World} {id ver b o : Nat} {x : Box} (hi : Inv cx r σ w)
    (hσ : σ'[id]? = some (ver, some x)) (hσo : ∀ j, j ≠ id → σ'[j]? = σ[j]?)
    (hold : ∀ cur y, σ[id]? = some (cur, y) → (cur < ver) ∨ (cur = ver ∧ r.ρ id ver = some (b, o)))
    (hb : w.heap.size ≤ b ∨ ∃ cur y o', σ[id]? = some (cur, some y) ∧ r.ρ id cur = some (b, o'))
    (hsame : ∀ k, k < w.heap.size → k ≠ b → w'.heap[k]? = w.heap[k]?) (hs : w.heap.size ≤ w'.heap.size)
    (hsize : ∀ c t f, w.heap[b]? = some (Obj.cells c t f) → ∃ (c' : Array Value) (f' : Nat × Nat), w'.heap[b]? = some (Obj.cells c' t f') ∧ c'.size = c.size)
    (hos : w'.os = w.os) (hout : w'.output = w.output) (htape : w'.tape = w.tape)
    (hx : Grow r w (r.bind id ver (b, o)) w' → BoxRel (r.bind id ver (b, o)) w' b o x) :
    Inv cx (r.bind id ver (b, o)) σ' w' ∧ Ext r σ w (r.bind id ver (b, o)) σ' w' := by
  have hnI : ¬ r.I b := by
    rcases hb with h | ⟨cur, y, o', h1, h2⟩
    · intro h3; have := hi.Ilt b h3; omega
    · exact hi.imm b ⟨id, cur, y, o', h1, h2⟩
  have hρ : ∀ i v p, r.ρ i v = some p → (r.bind id ver (b, o)).ρ i v = some p := by
    intro i v p hp
    simp only [Rl.bind]
    split
    · rename_i h
      obtain ⟨rfl, rfl⟩ := h
      obtain ⟨⟨cur, y, h1, h2⟩, h3⟩ := hi.lt _ _ _ _ hp
      rcases hold _ _ h1 with h4 | ⟨_, h4⟩
      · omega
      · rw [h4] at hp; exact hp
    · exact hp
  have hgsize : ∀ (b' : Nat) (c : Array Value) (t : TypeId) (f : Nat × Nat), w.heap[b']? = some (Obj.cells c t f) → ∃ (c' : Array Value) (f' : Nat × Nat), w'.heap[b']? = some (Obj.cells c' t f') ∧ c'.size = c.size := by
    intro b' c t f h
    by_cases hbb : b' = b
    · subst hbb; exact hsize c t f h
    · have hlt : b' < w.heap.size := by
        rcases Nat.lt_or_ge b' w.heap.size with h' | h'
        · exact h'
        · simp [Array.getElem?_eq_none h'] at h
      exact ⟨c, f, by rw [hsame b' hlt hbb, h], rfl⟩
  have g : Grow r w (r.bind id ver (b, o)) w' :=
    ⟨fun _ h => h, fun _ h => h, hρ, fun k hk => hsame k (hi.Ilt k hk) (fun e => hnI (e ▸ hk)), hgsize⟩
  have hbx := hx g
  have hbl := hbx.lt
  have hlenle : σ.length ≤ σ'.length := by
    rcases Nat.lt_or_ge σ'.length σ.length with h | h
    · exfalso
      by_cases hid : σ'.length = id
      · have := List.getElem?_eq_none (l := σ') (i := id) (by omega)
        rw [this] at hσ; cases hσ
      · have h1 := hσo _ hid
        rw [List.getElem?_eq_none (Nat.le_refl _)] at h1
        rw [List.getElem?_eq_getElem h] at h1
        cases h1
    · exact h
  -- a block of another live id is not b
  have hother : ∀ (j v : Nat) (y : Box) (k o' : Nat), j ≠ id → σ[j]? = some (v, some y) → r.ρ j v = some (k, o') → k ≠ b := by
    intro j v y k o' hj h1 h2 hk
    subst hk
    rcases hb with h | ⟨cur, z, o'', h3, h4⟩
    · have := (hi.lt _ _ _ _ h2).2; omega
    · exact hj (hi.inj _ _ _ _ _ _ _ _ _ h1 h3 h2 h4)
  constructor
  · refine ⟨?_, ?_, ?_, ?_, ?_, hi.SI, ?_⟩
    · intro j v y h
      by_cases hj : j = id
      · subst hj
        rw [hσ] at h
        simp only [Option.some.injEq, Prod.mk.injEq] at h
        obtain ⟨rfl, rfl⟩ := h
        exact .inl ⟨b, o, by simp [Rl.bind], hbx⟩
      · rw [hσo j hj] at h
        rcases hi.box j v y h with ⟨k, o', h1, h2⟩ | ⟨h1, h2⟩
        · have hk := hother j v y k o' hj h h1
          exact .inl ⟨k, o', hρ _ _ _ h1, h2.mono g (hsame k (hi.lt _ _ _ _ h1).2 hk)⟩
        · exact .inr ⟨by simp [Rl.bind, hj, h1], h2⟩
    · intro j v k o' h
      simp only [Rl.bind] at h
      split at h
      · rename_i hjv
        obtain ⟨rfl, rfl⟩ := hjv
        simp only [Option.some.injEq, Prod.mk.injEq] at h
        obtain ⟨rfl, rfl⟩ := h
        exact ⟨⟨v, _, hσ, Nat.le_refl _⟩, hbl⟩
      · obtain ⟨⟨cur, y, h1, h2⟩, h3⟩ := hi.lt _ _ _ _ h
        refine ⟨?_, Nat.lt_of_lt_of_le h3 hs⟩
        by_cases hj : j = id
        · subst hj
          refine ⟨ver, _, hσ, ?_⟩
          rcases hold _ _ h1 with h4 | ⟨h4, _⟩ <;> omega
        · exact ⟨cur, y, by rw [hσo j hj, h1], h2⟩
    · intro j j' v v' y y' k o1 o2 h1 h2 h3 h4
      by_cases hj : j = id
      · by_cases hj' : j' = id
        · rw [hj, hj']
        · exfalso
          subst hj
          rw [hσ] at h1
          simp only [Option.some.injEq, Prod.mk.injEq] at h1
          obtain ⟨rfl, rfl⟩ := h1
          simp only [Rl.bind, and_self, if_true, Option.some.injEq, Prod.mk.injEq] at h3
          rw [hσo j' hj'] at h2
          simp only [Rl.bind, hj', false_and, if_false] at h4
          exact hother j' v' y' k o2 hj' h2 h4 h3.1.symm
      · rw [hσo j hj] at h1
        simp only [Rl.bind, hj, false_and, if_false] at h3
        by_cases hj' : j' = id
        · exfalso
          subst hj'
          rw [hσ] at h2
          simp only [Option.some.injEq, Prod.mk.injEq] at h2
          obtain ⟨rfl, rfl⟩ := h2
          simp only [Rl.bind, and_self, if_true, Option.some.injEq, Prod.mk.injEq] at h4
          exact hother j v y k o1 hj h1 h3 h4.1.symm
        · rw [hσo j' hj'] at h2
          simp only [Rl.bind, hj', false_and, if_false] at h4
          exact hi.inj _ _ _ _ _ _ _ _ _ h1 h2 h3 h4
    · rintro k ⟨j, v, y, o', h1, h2⟩ hk
      by_cases hj : j = id
      · subst hj
        rw [hσ] at h1
        simp only [Option.some.injEq, Prod.mk.injEq] at h1
        obtain ⟨rfl, rfl⟩ := h1
        simp only [Rl.bind, and_self, if_true, Option.some.injEq, Prod.mk.injEq] at h2
        exact hnI (h2.1 ▸ hk)
      · rw [hσo j hj] at h1
        simp only [Rl.bind, hj, false_and, if_false] at h2
        exact hi.imm k ⟨j, v, y, o', h1, h2⟩ hk
    · intro k hk; exact Nat.lt_of_lt_of_le (hi.Ilt k hk) hs
    · intro k cs hk
      obtain ⟨h1, h2⟩ := hi.glob k cs hk
      refine ⟨h1, fun i h => ?_⟩
      obtain ⟨v, h3, h4⟩ := h2 i h
      exact ⟨v, by rw [cell_of_same (g.same k (hi.SI k h1))]; exact h3, h4⟩
  · refine ⟨fun _ h => h, fun _ h => h, fun _ h => .inl h, fun _ h => .inl h, hρ, hs, hlenle, ?_, ?_, hgsize, hos, hout, htape⟩
    · intro k hk hnl
      refine hsame k hk (fun e => ?_)
      subst e
      rcases hb with h | ⟨cur, y, o', h1, h2⟩
      · omega
      · exact hnl ⟨id, cur, y, o', h1, h2⟩
    · rintro k ⟨j, v, y, o', h1, h2⟩
      by_cases hj : j = id
      · subst hj
        rw [hσ] at h1
        simp only [Option.some.injEq, Prod.mk.injEq] at h1
        obtain ⟨rfl, rfl⟩ := h1
        simp only [Rl.bind, and_self, if_true, Option.some.injEq, Prod.mk.injEq] at h2
        obtain ⟨rfl, rfl⟩ := h2
        rcases hb with h | ⟨cur, z, o'', h3, h4⟩
        · exact .inr h
        · exact .inl ⟨j, cur, z, o'', h3, h4⟩
      · rw [hσo j hj] at h1
        simp only [Rl.bind, hj, false_and, if_false] at h2
        exact .inl ⟨j, v, y, o', h1, h2⟩

/-- A world whose heap is the same. -/
theorem Inv.heap_eq {cx : Cx} {r : Rl} {σ : Heap} {w w' : World} (hi : Inv cx r σ w) (h : w'.heap = w.heap) (hos : w'.os = w.os) (hout : w'.output = w.output) (htape : w'.tape = w.tape) :
    Inv cx r σ w' ∧ Ext r σ w r σ w' := by
  have g : Grow r w r w' := ⟨fun _ h => h, fun _ h => h, fun _ _ _ h => h, fun _ _ => by rw [h], fun b c t f hc => ⟨c, f, by rw [h, hc], rfl⟩⟩
  refine ⟨⟨?_, by rw [h]; exact hi.lt, hi.inj, hi.imm, by rw [h]; exact hi.Ilt, hi.SI, ?_⟩, ?_⟩
  · intro id ver x hx
    rcases hi.box id ver x hx with ⟨b, o, h1, h2⟩ | h1
    · exact .inl ⟨b, o, h1, h2.mono g (by rw [h])⟩
    · exact .inr h1
  · intro k cs hk
    obtain ⟨h1, h2⟩ := hi.glob k cs hk
    refine ⟨h1, fun i hl => ?_⟩
    obtain ⟨v, h3, h4⟩ := h2 i hl
    exact ⟨v, by rw [cell_of_same (w := w) (by rw [h])]; exact h3, h4⟩
  · exact ⟨fun _ h => h, fun _ h => h, fun _ h => .inl h, fun _ h => .inl h, fun _ _ _ h => h, by rw [h]; exact Nat.le_refl _, Nat.le_refl _, fun _ _ _ => by rw [h], fun _ h => .inl h, g.size, hos, hout, htape⟩

def Rl.add (r : Rl) (b : Nat) : Rl := { r with S := fun k => r.S k ∨ k = b, I := fun k => r.I k ∨ k = b }

/-- A new block that nobody will write. -/
theorem Inv.stable {cx : Cx} {r : Rl} {σ : Heap} {w : World} (hi : Inv cx r σ w) (ob : Obj) :
    Inv cx (r.add w.heap.size) σ (w.alloc ob) ∧ Ext r σ w (r.add w.heap.size) σ (w.alloc ob) ∧ Grow r w (r.add w.heap.size) (w.alloc ob) := by
  have hh : ∀ k, k < w.heap.size → (w.alloc ob).heap[k]? = w.heap[k]? := by
    intro k hk
    simp only [World.alloc, Array.getElem?_push]
    rw [if_neg (by omega)]
  have hsz : (w.alloc ob).heap.size = w.heap.size + 1 := by simp
  have hgsize : ∀ (b : Nat) (c : Array Value) (t : TypeId) (f : Nat × Nat), w.heap[b]? = some (Obj.cells c t f) → ∃ (c' : Array Value) (f' : Nat × Nat), (w.alloc ob).heap[b]? = some (Obj.cells c' t f') ∧ c'.size = c.size := by
    intro b c t f h
    have hlt : b < w.heap.size := by
      rcases Nat.lt_or_ge b w.heap.size with h' | h'
      · exact h'
      · simp [Array.getElem?_eq_none h'] at h
    exact ⟨c, f, by rw [hh b hlt, h], rfl⟩
  have g : Grow r w (r.add w.heap.size) (w.alloc ob) := ⟨fun _ h => .inl h, fun _ h => .inl h, fun _ _ _ h => h, fun b hb => hh b (hi.Ilt b hb), hgsize⟩
  refine ⟨⟨?_, ?_, hi.inj, ?_, ?_, ?_, ?_⟩, ⟨g.S, g.I, ?_, ?_, g.ρ, by rw [hsz]; omega, Nat.le_refl _, fun b hb _ => hh b hb, fun b h => .inl h, hgsize, rfl, rfl, rfl⟩, g⟩
  · intro id ver x hx
    rcases hi.box id ver x hx with ⟨b, o, h1, h2⟩ | h1
    · exact .inl ⟨b, o, h1, h2.mono g (hh b h2.lt)⟩
    · exact .inr h1
  · intro id ver b o h
    obtain ⟨h1, h2⟩ := hi.lt id ver b o h
    exact ⟨h1, by rw [hsz]; omega⟩
  · rintro b ⟨id, ver, x, o, h1, h2⟩ hb
    rcases hb with hb | hb
    · exact hi.imm b ⟨id, ver, x, o, h1, h2⟩ hb
    · have := (hi.lt _ _ _ _ h2).2; omega
  · intro b hb
    rw [hsz]
    rcases hb with hb | hb
    · have := hi.Ilt b hb; omega
    · omega
  · intro b hb
    rcases hb with hb | hb
    · exact .inl (hi.SI b hb)
    · exact .inr hb
  · intro k cs hk
    obtain ⟨h1, h2⟩ := hi.glob k cs hk
    refine ⟨.inl h1, fun i hl => ?_⟩
    obtain ⟨v, h3, h4⟩ := h2 i hl
    exact ⟨v, by rw [cell_of_same (hh k (hi.Ilt k (hi.SI k h1)))]; exact h3, h4⟩
  · intro b hb
    rcases hb with hb | hb
    · exact .inl hb
    · exact .inr (by omega)
  · intro b hb
    rcases hb with hb | hb
    · exact .inl hb
    · exact .inr (.inr (by omega))

/-- The first address that is free again. -/
def firstDead : Heap → Nat → Option (Nat × Nat)
  | [], _ => none
  | (v, none) :: _, i => some (i, v)
  | (_, some _) :: r, i => firstDead r (i + 1)

def allocH (σ : Heap) (x : Box) : Nat × Nat × Heap :=
  match firstDead σ 0 with
  | some (i, v) => (i, v + 1, σ.set i (v + 1, some x))
  | none => (σ.length, 0, σ ++ [(0, some x)])

theorem firstDead_spec : ∀ (σ : Heap) (k i v : Nat), firstDead σ k = some (i, v) → k ≤ i ∧ σ[i - k]? = some (v, none)
  | [], _, _, _, h => by simp [firstDead] at h
  | (u, none) :: r, k, i, v, h => by
    simp only [firstDead, Option.some.injEq, Prod.mk.injEq] at h
    obtain ⟨rfl, rfl⟩ := h
    simp
  | (u, some y) :: r, k, i, v, h => by
    simp only [firstDead] at h
    obtain ⟨h1, h2⟩ := firstDead_spec r (k + 1) i v h
    refine ⟨by omega, ?_⟩
    rw [show i - k = (i - (k + 1)) + 1 by omega, List.getElem?_cons_succ]
    exact h2

theorem allocH_spec {σ : Heap} {x : Box} {id ver : Nat} {σ' : Heap} (h : allocH σ x = (id, ver, σ')) :
    σ'[id]? = some (ver, some x) ∧ (∀ j, j ≠ id → σ'[j]? = σ[j]?) ∧ (∀ cur y, σ[id]? = some (cur, y) → cur < ver) := by
  unfold allocH at h
  split at h
  · rename_i i v hd
    simp only [Prod.mk.injEq] at h
    obtain ⟨rfl, rfl, rfl⟩ := h
    obtain ⟨_, h2⟩ := firstDead_spec σ 0 i v hd
    simp only [Nat.sub_zero] at h2
    have hl : i < σ.length := by
      rcases Nat.lt_or_ge i σ.length with h | h
      · exact h
      · rw [List.getElem?_eq_none h] at h2; cases h2
    refine ⟨by simp [hl], fun j hj => by rw [List.getElem?_set]; simp [Ne.symm hj], fun cur y hc => ?_⟩
    rw [h2] at hc
    simp only [Option.some.injEq, Prod.mk.injEq] at hc
    omega
  · simp only [Prod.mk.injEq] at h
    obtain ⟨rfl, rfl, rfl⟩ := h
    refine ⟨by simp, fun j hj => ?_, fun cur y hc => ?_⟩
    · rcases Nat.lt_or_ge j σ.length with h | h
      · rw [List.getElem?_append_left h]
      · rw [List.getElem?_eq_none h, List.getElem?_eq_none]
        simp; omega
    · rw [List.getElem?_eq_none (Nat.le_refl _)] at hc; cases hc

/-- A new box in a new block. -/
theorem Inv.new {cx : Cx} {r : Rl} {σ σ' : Heap} {w : World} {id ver : Nat} {x : Box} {ob : Obj} (hi : Inv cx r σ w) (ha : allocH σ x = (id, ver, σ'))
    (hx : Grow r w (r.bind id ver (w.heap.size, 0)) (w.alloc ob) → BoxRel (r.bind id ver (w.heap.size, 0)) (w.alloc ob) w.heap.size 0 x) :
    Inv cx (r.bind id ver (w.heap.size, 0)) σ' (w.alloc ob) ∧ Ext r σ w (r.bind id ver (w.heap.size, 0)) σ' (w.alloc ob) := by
  obtain ⟨h1, h2, h3⟩ := allocH_spec ha
  refine hi.update h1 h2 (fun cur y h => .inl (h3 cur y h)) (.inl (Nat.le_refl _)) ?_ (by simp) ?_ rfl rfl rfl hx
  · intro k hk _
    simp only [World.alloc, Array.getElem?_push]
    rw [if_neg (by omega)]
  · intro c t f h
    simp [Array.getElem?_eq_none (Nat.le_refl w.heap.size)] at h

theorem heap_alloc_self (w : World) (ob : Obj) : (w.alloc ob).heap[w.heap.size]? = some ob := by
  show (w.heap.push ob)[w.heap.size]? = some ob
  simp

end Go.Ab
