/-
  Operations that make or write memory.
-/
import Derived.Test.YtjpmngjoohoddaaAbF
set_option linter.unusedVariables false
set_option linter.unusedSimpArgs false
namespace Go.Ab
open Go

def OpRes (cx : Cx) (r : Rl) (σ : Heap) (w : World) (rr : Result Next) (v : AV) (σ' : Heap) : Prop :=
  ∃ r' w' v', (rr = .ok (.value v') w' ∨ (rr = .ok .skip w' ∧ v' = undef)) ∧ VRel r' w' v' v ∧ Inv cx r' σ' w' ∧ Ext r σ w r' σ' w'

def AV.blank : AV → Bool
  | .top => true
  | .mark _ => true
  | _ => false

theorem AV.blank_of {a : AV} (h : ∀ y ∈ a.cells, y.one = true) : a.blank = false := by
  cases a <;> first | rfl | (have := h _ (List.mem_cons_self ..); simp [AV.one] at this)

theorem VRel.cells {r : Rl} {w : World} {v : Value} {a : AV} (h : VRel r w v a) (ht : a.blank = false) : v.cells.size = a.cells.length ∧ ∀ i (hi : i < a.cells.length), ∃ u, v.cells[i]? = some u ∧ VRel r w u a.cells[i] := by
  cases h
  case top => cases ht
  case mark => cases ht
  case agg hn h =>
    refine ⟨hn, fun i hi => ?_⟩
    exact agg_getElem? (.agg hn h) i hi
  all_goals
    refine ⟨rfl, fun i hi => ⟨_, by
      simp only [AV.cells, List.length_cons, List.length_nil] at hi
      obtain rfl : i = 0 := by omega
      rfl, ?_⟩⟩
    simp only [AV.cells, List.length_cons, List.length_nil] at hi
    obtain rfl : i = 0 := by omega
    simp only [AV.cells, List.getElem_cons_zero]
  case bool => exact .bool
  case int => exact .int
  case str h => exact .str h
  case nilp => exact .nilp
  case ptr h => exact .ptr h
  case eptr h => exact .eptr h
  case rp hI hS f hc hv => exact .rp hI hS f hc hv
  case nils => exact .nils
  case sl0 h => exact .sl0 h
  case sl h1 h2 h3 h4 h5 h6 f h7 h8 => exact .sl h1 h2 h3 h4 h5 h6 f h7 h8
  case ms0 => exact .ms0
  case ms h1 h2 h3 h4 => exact .ms h1 h2 h3 h4
  case nilm => exact .nilm
  case map h => exact .map h
  case func h1 h2 h3 h4 => exact .func h1 h2 h3 h4
  case nilf => exact .nilf
  case iface h => exact .iface h
  case nili => exact .nili
  case tup h1 h2 => exact .tup h1 h2

/-- A new row of cells as a new box. -/
theorem Inv.newCells {cx : Cx} {gT : Option TypeId} {r : Rl} {σ σ' : Heap} {w : World} {id ver : Nat} {cs : List AV} {c : Array Value} {t : TypeId} (hi : Inv cx r σ w) (ha : allocH σ (.cells cs ⟨false, gT⟩) = (id, ver, σ'))
    (h1 : ∀ i (h : i < cs.length), ∃ v, c[i]? = some v ∧ VRel r w v cs[i]) (h2 : ∀ x ∈ cs, x.one = true) (hT : ∀ T, gT = some T → t = T) :
    ∃ r', Inv cx r' σ' (w.alloc (.cells c t)) ∧ Ext r σ w r' σ' (w.alloc (.cells c t)) ∧ r'.ρ id ver = some (w.heap.size, 0) ∧ r'.I = r.I ∧ r'.S = r.S := by
  have h := hi.new (ob := .cells c t) ha (fun g => ⟨c, t, 0, 0, heap_alloc_self w _, fun i hl => by
    obtain ⟨v, h3, h4⟩ := h1 i hl
    exact ⟨v, by rw [Nat.zero_add]; exact h3, h4.mono g⟩, h2, fun i h3 h4 => by omega, fun T h => ⟨hT T h, rfl⟩⟩)
  exact ⟨_, h.1, h.2, by simp [Rl.bind], rfl, rfl⟩

def zeroA (P : Program) (t : TypeId) : Option (List AV) :=
  match P.info? t with
  | some i => match i.zero with
    | some z => some (z.cells.toList.map cst1)
    | none => none
  | none => none

theorem zeroA_some {P : Program} {t : TypeId} {cs : List AV} (h : zeroA P t = some cs) : ∃ i z, P.info? t = some i ∧ i.zero = some z ∧ cs = z.cells.toList.map cst1 := by
  unfold zeroA at h
  split at h
  · rename_i i hi
    split at h
    · rename_i z hz
      simp only [Option.some.injEq] at h
      exact ⟨i, z, hi, hz, h.symm⟩
    · cases h
  · cases h

theorem run_zeroValue {P : Program} {t : TypeId} {i : TypeInfo} {z : Value} (hi : P.info? t = some i) (hz : i.zero = some z) (w : World) : (zeroValue t).run P w = .ok z w := by
  simp [zeroValue, typeInfo, hi, hz]

theorem cst1_cells (r : Rl) (w : World) (z : Value) : ∀ i (h : i < (z.cells.toList.map cst1).length), ∃ v, z.cells[i]? = some v ∧ VRel r w v (z.cells.toList.map cst1)[i] := by
  intro i h
  simp only [List.length_map, Array.length_toList] at h
  exact ⟨z.cells[i], by simp [h], by simpa using cst1_rel r w _⟩

def allOne (cs : List AV) : Bool := cs.all AV.one
theorem allOne_mem {cs : List AV} (h : allOne cs = true) : ∀ x ∈ cs, x.one = true := List.all_eq_true.1 h

def setRange {α : Type} (cs : List α) (off : Nat) (vs : List α) : List α :=
  match vs with
  | [v] => cs.set off v
  | vs => cs.take off ++ vs ++ cs.drop (off + vs.length)

theorem setRange_length {α : Type} (cs : List α) (off : Nat) (vs : List α) (h : off + vs.length ≤ cs.length) : (setRange cs off vs).length = cs.length := by
  unfold setRange
  split
  · simp
  · simp only [List.length_append, List.length_take, List.length_drop]; omega

theorem setRange_get {α : Type} (cs : List α) (off : Nat) (vs : List α) (h : off + vs.length ≤ cs.length) (i : Nat) :
    (setRange cs off vs)[i]? = if off ≤ i ∧ i < off + vs.length then vs[i - off]? else cs[i]? := by
  unfold setRange
  split
  · rename_i v
    simp only [List.length_singleton] at h ⊢
    rw [List.getElem?_set]
    by_cases hi : off = i
    · subst hi
      rw [if_pos rfl, if_pos (by omega), if_pos (by omega)]
      simp
    · rw [if_neg hi, if_neg (by omega)]
  · by_cases h1 : i < off
    · rw [if_neg (by omega), List.append_assoc, List.getElem?_append_left (by rw [List.length_take]; omega), List.getElem?_take, if_pos h1]
    · by_cases h2 : i < off + vs.length
      · rw [if_pos (by omega), List.append_assoc, List.getElem?_append_right (by simp; omega), List.getElem?_append_left (by simp; omega)]
        congr 1
        simp; omega
      · rw [if_neg (by omega), List.getElem?_append_right (by simp; omega), List.getElem?_drop]
        congr 1
        simp; omega

/-- What a row of stores leaves. -/
theorem setCells_heap (b : Nat) : ∀ (vs : List Value) (o : Nat) (w : World) (c : Array Value) (t : TypeId) (f : Nat × Nat), w.heap[b]? = some (.cells c t f) → o + vs.length ≤ c.size →
    ∃ c', (w.setCells b o vs).heap[b]? = some (.cells c' t f) ∧ c'.size = c.size ∧ (∀ i : Nat, c'[i]? = if o ≤ i ∧ i < o + vs.length then vs[i - o]? else c[i]?) ∧
      (∀ k, k ≠ b → (w.setCells b o vs).heap[k]? = w.heap[k]?) ∧ (w.setCells b o vs).heap.size = w.heap.size ∧ (w.setCells b o vs).os = w.os ∧ (w.setCells b o vs).output = w.output ∧ (w.setCells b o vs).tape = w.tape
  | [], o, w, c, t, f, h, hl => ⟨c, h, rfl, fun i => by rw [if_neg (by rw [List.length_nil]; omega)], fun k hk => rfl, rfl, rfl, rfl, rfl⟩
  | v :: r, o, w, c, t, f, h, hl => by
    simp only [List.length_cons] at hl
    have h1 : (w.setCell ⟨b, o, none⟩ v).heap[b]? = some (.cells (c.setIfInBounds o v) t f) := by
      simp [World.setCell, Array.getElem?_modify, h]
    have h2 : ∀ k, k ≠ b → (w.setCell ⟨b, o, none⟩ v).heap[k]? = w.heap[k]? := by
      intro k hk
      simp only [World.setCell, Array.getElem?_modify]
      rw [if_neg (Ne.symm hk)]
    obtain ⟨c', h3, h4, h5, h6, h7, h8, h9, h10⟩ := setCells_heap b r (o + 1) (w.setCell ⟨b, o, none⟩ v) (c.setIfInBounds o v) t f h1 (by simp; omega)
    refine ⟨c', h3, by simpa using h4, fun i => ?_, fun k hk => (h6 k hk).trans (h2 k hk), by rw [show w.setCells b o (v :: r) = (w.setCell ⟨b, o, none⟩ v).setCells b (o + 1) r from rfl, h7]; simp, h8, h9, h10⟩
    rw [h5 i, Array.getElem?_setIfInBounds]
    simp only [List.length_cons]
    by_cases hi : o = i
    · subst hi
      rw [if_neg (by omega), if_pos rfl, if_pos (by omega), if_pos (by omega)]
      simp
    · rw [if_neg hi]
      by_cases hj : o + 1 ≤ i ∧ i < o + 1 + r.length
      · rw [if_pos hj, if_pos (by omega)]
        rw [show i - o = (i - (o + 1)) + 1 by omega, List.getElem?_cons_succ]
      · rw [if_neg hj, if_neg (by omega)]

def aStore (P : Program) (t : TypeId) (a x : AV) (σ : Heap) : Option (List Prop × Heap) :=
  match szOf P t with
  | some n => match a with
    | .ptr id ver off => match σ[id]? with
      | some (cur, some (.cells cs ⟨false, gT⟩)) => bif Nat.beq x.cells.length n && allOne x.cells then some ([ver = cur, off + n ≤ cs.length], σ.set id (cur, some (.cells (setRange cs off x.cells) ⟨false, gT⟩))) else none
      | _ => none
    | .eptr id ver off => match σ[id]? with
      | some (cur, some (.cells cs ⟨false, gT⟩)) => bif Nat.beq x.cells.length n && allOne x.cells then some ([ver = cur, off + n ≤ cs.length], σ.set id (cur, some (.cells (setRange cs off x.cells) ⟨false, gT⟩))) else none
      | _ => none
    | _ => none
  | none => none

theorem store_main {cx : Cx} {gT : Option TypeId} {r : Rl} {σ : Heap} {w : World} {t : TypeId} {id ver cur off n b o : Nat} {cs : List AV} {x : Value} {x' : AV} (hi : Inv cx r σ w) (hn : szOf cx.P t = some n)
    (hσ : σ[id]? = some (cur, some (.cells cs ⟨false, gT⟩))) (hv : ver = cur) (hle : off + n ≤ cs.length) (hlen : x'.cells.length = n) (hone : ∀ y ∈ x'.cells, y.one = true) (hx : VRel r w x x') (hρ : r.ρ id ver = some (b, o)) :
    ∃ w' r', (storeVar t ⟨b, o + off, none⟩ x).run cx.P w = .ok () w' ∧ Inv cx r' (σ.set id (cur, some (.cells (setRange cs off x'.cells) ⟨false, gT⟩))) w' ∧ Ext r σ w r' (σ.set id (cur, some (.cells (setRange cs off x'.cells) ⟨false, gT⟩))) w' := by
  subst hv
  have htop : x'.blank = false := AV.blank_of hone
  obtain ⟨hs1, hs2⟩ := hx.cells htop
  have hbx : BoxRel r w b o (.cells cs ⟨false, gT⟩) := by
    rcases hi.box id ver _ hσ with ⟨b', o', h1, h2⟩ | ⟨h1, _⟩
    · rw [hρ] at h1; simp only [Option.some.injEq, Prod.mk.injEq] at h1; obtain ⟨rfl, rfl⟩ := h1; exact h2
    · rw [hρ] at h1; cases h1
  obtain ⟨c, ty, lo, hi', q1, q2, q3, q4, q5⟩ := hbx
  have hsz : o + cs.length ≤ c.size ∨ cs.length = 0 := by
    rcases Nat.eq_zero_or_pos cs.length with h0 | h0
    · exact .inr h0
    · obtain ⟨v, hv, _⟩ := q2 (cs.length - 1) (by omega)
      rcases Nat.lt_or_ge (o + (cs.length - 1)) c.size with h | h
      · left; omega
      · rw [Array.getElem?_eq_none h] at hv; cases hv
  have hcell : ∀ j, j < n → (w.cell? ⟨b, o + off + j, none⟩).isSome = true ∧ w.frozen? ⟨b, o + off + j, none⟩ = false := by
    intro j hj
    obtain ⟨v, h1, _⟩ := q2 (off + j) (by omega)
    rw [← Nat.add_assoc] at h1
    refine ⟨by simp [World.cell?, q1, h1], ?_⟩
    have hlt : o + off + j < c.size := by
      rcases Nat.lt_or_ge (o + off + j) c.size with h | h
      · exact h
      · rw [Array.getElem?_eq_none h] at h1; cases h1
    simp only [World.frozen?, q1]
    by_cases hf : lo ≤ o + off + j ∧ o + off + j < hi'
    · have := (q4 _ hf.1 hf.2 hlt).1; cases this
    · simp only [Bool.and_eq_false_iff, decide_eq_false_iff_not]
      by_cases h1 : lo ≤ o + off + j
      · right; intro h2; exact hf ⟨h1, h2⟩
      · left; exact h1
  have hvone : ∀ v ∈ x.cells.toList, v.oneCell' = true := by
    intro v hv
    obtain ⟨i, hi1, rfl⟩ := List.getElem_of_mem hv
    simp only [Array.length_toList] at hi1
    obtain ⟨u, h1, h2⟩ := hs2 i (by omega)
    rw [Array.getElem?_eq_getElem hi1] at h1
    simp only [Option.some.injEq] at h1
    simp only [Array.getElem_toList, h1]
    exact h2.one (hone _ (List.getElem_mem _))
  have hrun := run_storeCells_cells (P := cx.P) b (o + off) x.cells.toList 0 w (fun j hj => by simp at hj; simpa using (hcell j (by omega)).1) (fun j hj => by simp at hj; simpa using (hcell j (by omega)).2) hvone
  simp only [Nat.add_zero] at hrun
  have hstore : (storeVar t ⟨b, o + off, none⟩ x).run cx.P w = .ok () (w.setCells b (o + off) x.cells.toList) := by
    simp [storeVar, run_sizeOf' hn, hs1, hlen, hrun]
  by_cases h0 : n = 0
  · subst h0
    have hnil : x'.cells = [] := List.eq_nil_of_length_eq_zero hlen
    have hnil' : x.cells.toList = [] := List.eq_nil_of_length_eq_zero (by simp [hs1, hlen])
    rw [hnil'] at hstore
    have hset : σ.set id (ver, some (.cells (setRange cs off x'.cells) ⟨false, gT⟩)) = σ := by
      rw [hnil]
      simp only [setRange, List.append_nil, List.length_nil, Nat.add_zero, List.take_append_drop]
      apply List.ext_getElem?
      intro k
      rw [List.getElem?_set]
      split
      · rename_i h; subst h
        split
        · exact hσ.symm
        · rename_i h; rw [List.getElem?_eq_none (by omega)]
      · rfl
    rw [hset]
    exact ⟨w, r, hstore, hi, Ext.refl _ _ _⟩
  · obtain ⟨c', h1, h2, h3, h4, h5, h6, h7, h8⟩ := setCells_heap b x.cells.toList (o + off) w c ty (lo, hi') q1 (by simp; omega)
    have hid : id < σ.length := by
      rcases Nat.lt_or_ge id σ.length with h | h
      · exact h
      · rw [List.getElem?_eq_none h] at hσ; cases hσ
    have hu := hi.update (σ' := σ.set id (ver, some (.cells (setRange cs off x'.cells) ⟨false, gT⟩))) (id := id) (ver := ver) (b := b) (o := o) (x := .cells (setRange cs off x'.cells) ⟨false, gT⟩)
      (w' := w.setCells b (o + off) x.cells.toList) (by simp [hid]) (fun j hj => by rw [List.getElem?_set, if_neg (Ne.symm hj)])
      (fun c2 y hy => by rw [hσ] at hy; simp only [Option.some.injEq, Prod.mk.injEq] at hy; exact .inr ⟨hy.1.symm, hρ⟩) (.inr ⟨ver, _, o, hσ, hρ⟩) (fun k hk hkb => h4 k hkb) (by rw [h5]; exact Nat.le_refl _)
      (fun c2 t2 f2 hc2 => by rw [q1] at hc2; simp only [Option.some.injEq, Obj.cells.injEq] at hc2; obtain ⟨rfl, rfl, rfl⟩ := hc2; exact ⟨c', _, h1, h2⟩) h6 h7 h8
      (fun g => by
        refine ⟨c', ty, lo, hi', h1, fun i hil => ?_, fun y hy => ?_, fun i a1 a2 a3 => ?_, q5⟩
        · rw [setRange_length _ _ _ (by omega)] at hil
          have hget := setRange_get cs off x'.cells (by omega) i
          have hget2 : (setRange cs off x'.cells)[i]? = some ((setRange cs off x'.cells)[i]'(by rw [setRange_length _ _ _ (by omega)]; exact hil)) := List.getElem?_eq_getElem _
          rw [h3]
          by_cases hin : off ≤ i ∧ i < off + n
          · rw [if_pos (by simp; omega)]
            rw [if_pos (by omega)] at hget
            obtain ⟨u, e1, e2⟩ := hs2 (i - off) (by omega)
            refine ⟨u, by rw [← e1]; simp only [Array.getElem?_toList]; congr 1; omega, ?_⟩
            rw [hget, List.getElem?_eq_getElem (by omega)] at hget2
            simp only [Option.some.injEq] at hget2
            rw [← hget2]
            exact e2.mono g
          · rw [if_neg (by simp; omega)]
            rw [if_neg (by omega)] at hget
            obtain ⟨u, e1, e2⟩ := q2 i hil
            refine ⟨u, e1, ?_⟩
            rw [hget, List.getElem?_eq_getElem hil] at hget2
            simp only [Option.some.injEq] at hget2
            rw [← hget2]
            exact e2.mono g
        · obtain ⟨i, hi1, rfl⟩ := List.getElem_of_mem hy
          have hget := setRange_get cs off x'.cells (by omega) i
          rw [List.getElem?_eq_getElem hi1] at hget
          split at hget
          · exact hone _ (List.mem_of_getElem? hget.symm)
          · exact q3 _ (List.mem_of_getElem? hget.symm)
        · rw [h2] at a3
          rw [setRange_length _ _ _ (by omega)]
          exact q4 i a1 a2 a3)
    exact ⟨_, _, hstore, hu.1, hu.2⟩

theorem aStore_run {cx : Cx} {r : Rl} {σ σ' : Heap} {w : World} {t : TypeId} {y x : Value} {y' x' : AV} {C : List Prop} (hi : Inv cx r σ w) (h : aStore cx.P t y' x' σ = some (C, σ')) (hC : AllP C)
    (hy : VRel r w y y') (hx : VRel r w x x') : ∃ w' r', (Instr.storeAt t y x).run cx.P w = .ok () w' ∧ Inv cx r' σ' w' ∧ Ext r σ w r' σ' w' := by
  unfold aStore at h
  split at h
  case h_2 => cases h
  rename_i n hn
  split at h
  case h_3 => cases h
  all_goals
    split at h
    case h_2 => cases h
    rename_i id ver off _ cur cs hσ
    cases hb : (Nat.beq x'.cells.length n && allOne x'.cells) with
    | false => rw [hb] at h; cases h
    | true =>
      rw [hb] at h
      simp only [cond_true, Option.some.injEq, Prod.mk.injEq] at h
      obtain ⟨rfl, rfl⟩ := h
      simp only [Bool.and_eq_true] at hb
      obtain ⟨hv, hle, _⟩ := hC
      cases hy
      rename_i b o hρ
      obtain ⟨w', r', h1, h2, h3⟩ := store_main hi hn hσ hv hle (Nat.eq_of_beq_eq_true hb.1) (allOne_mem hb.2) hx hρ
      exact ⟨w', r', by simpa [Instr.storeAt, Instr.sureAddr] using h1, h2, h3⟩

end Go.Ab
