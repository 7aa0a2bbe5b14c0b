/-
  copy; and all operations in one function.
-/
import Derived.Test.YtjpmngjoohoddaaAbL
set_option linter.unusedVariables false
set_option linter.unusedSimpArgs false
namespace Go.Ab
open Go

theorem cells_store {cx : Cx} {gT : Option TypeId} {r : Rl} {σ : Heap} {w : World} {id ver off b o : Nat} {cs ys : List AV} {vs : List Value} (hi : Inv cx r σ w)
    (hσ : σ[id]? = some (ver, some (.cells cs ⟨false, gT⟩))) (hle : off + ys.length ≤ cs.length) (hone : ∀ y ∈ ys, y.one = true) (hx : Vals r w vs ys) (hρ : r.ρ id ver = some (b, o)) (h0 : ys.length ≠ 0) :
    ∃ w' r', (storeCells ⟨b, o + off, none⟩ vs).run cx.P w = .ok () w' ∧ Inv cx r' (σ.set id (ver, some (.cells (setRange cs off ys) ⟨false, gT⟩))) w' ∧ Ext r σ w r' (σ.set id (ver, some (.cells (setRange cs off ys) ⟨false, gT⟩))) w' := by
  have hbx : BoxRel r w b o (.cells cs ⟨false, gT⟩) := by
    rcases hi.box id ver _ hσ with ⟨b', o', h1, h2⟩ | ⟨h1, _⟩
    · rw [hρ] at h1; simp only [Option.some.injEq, Prod.mk.injEq] at h1; obtain ⟨rfl, rfl⟩ := h1; exact h2
    · rw [hρ] at h1; cases h1
  obtain ⟨c, ty, lo, hi', q1, q2, q3, q4, q5⟩ := hbx
  have hsz : o + cs.length ≤ c.size ∨ cs.length = 0 := by
    rcases Nat.eq_zero_or_pos cs.length with h0 | h0
    · exact .inr h0
    · obtain ⟨v, hv, _⟩ := q2 (cs.length - 1) (by omega)
      rcases Nat.lt_or_ge (o + (cs.length - 1)) c.size with h | h
      · left; omega
      · rw [Array.getElem?_eq_none h] at hv; cases hv
  have hcell : ∀ j, j < vs.length → (w.cell? ⟨b, o + off + j, none⟩).isSome = true ∧ w.frozen? ⟨b, o + off + j, none⟩ = false := by
    intro j hj
    have hj' : j < ys.length := by rw [← hx.1]; exact hj
    obtain ⟨v, h1, _⟩ := q2 (off + j) (by omega)
    rw [← Nat.add_assoc] at h1
    refine ⟨by simp [World.cell?, q1, h1], ?_⟩
    have hlt : o + off + j < c.size := by
      rcases Nat.lt_or_ge (o + off + j) c.size with h | h
      · exact h
      · rw [Array.getElem?_eq_none h] at h1; cases h1
    simp only [World.frozen?, q1]
    by_cases hf : lo ≤ o + off + j ∧ o + off + j < hi'
    · have := (q4 _ hf.1 hf.2 hlt).1; cases this
    · simp only [Bool.and_eq_false_iff, decide_eq_false_iff_not]
      by_cases h1 : lo ≤ o + off + j
      · right; intro h2; exact hf ⟨h1, h2⟩
      · left; exact h1
  have hrun := run_storeCells_cells (P := cx.P) b (o + off) vs 0 w (fun j hj => by simpa using (hcell j hj).1) (fun j hj => by simpa using (hcell j hj).2) (hx.one hone)
  simp only [Nat.add_zero] at hrun
  obtain ⟨c', h1, h2, h3, h4, h5, h6, h7, h8⟩ := setCells_heap b vs (o + off) w c ty (lo, hi') q1 (by have := hx.1; omega)
  have hid : id < σ.length := by
    rcases Nat.lt_or_ge id σ.length with h | h
    · exact h
    · rw [List.getElem?_eq_none h] at hσ; cases hσ
  have hu := hi.update (σ' := σ.set id (ver, some (.cells (setRange cs off ys) ⟨false, gT⟩))) (id := id) (ver := ver) (b := b) (o := o) (x := .cells (setRange cs off ys) ⟨false, gT⟩)
    (w' := w.setCells b (o + off) vs) (by simp [hid]) (fun j hj => by rw [List.getElem?_set, if_neg (Ne.symm hj)])
    (fun c2 y hy => by rw [hσ] at hy; simp only [Option.some.injEq, Prod.mk.injEq] at hy; exact .inr ⟨hy.1.symm, hρ⟩) (.inr ⟨ver, _, o, hσ, hρ⟩) (fun k hk hkb => h4 k hkb) (by rw [h5]; exact Nat.le_refl _)
    (fun c2 t2 f2 hc2 => by rw [q1] at hc2; simp only [Option.some.injEq, Obj.cells.injEq] at hc2; obtain ⟨rfl, rfl, rfl⟩ := hc2; exact ⟨c', _, h1, h2⟩) h6 h7 h8
    (fun g => by
      refine ⟨c', ty, lo, hi', h1, fun i hil => ?_, fun y hy => ?_, fun i a1 a2 a3 => ?_, q5⟩
      · rw [setRange_length _ _ _ hle] at hil
        have hget := setRange_get cs off ys hle i
        have hget2 : (setRange cs off ys)[i]? = some ((setRange cs off ys)[i]'(by rw [setRange_length _ _ _ hle]; exact hil)) := List.getElem?_eq_getElem _
        rw [h3]
        by_cases hin : off ≤ i ∧ i < off + ys.length
        · rw [if_pos (by have := hx.1; omega)]
          rw [if_pos hin] at hget
          obtain ⟨u, e1, e2⟩ := hx.2 (i - off) (by omega)
          refine ⟨u, by rw [← e1]; congr 1; omega, ?_⟩
          rw [hget, List.getElem?_eq_getElem (by omega)] at hget2
          simp only [Option.some.injEq] at hget2
          rw [← hget2]
          exact e2.mono g
        · rw [if_neg (by have := hx.1; omega)]
          rw [if_neg hin] at hget
          obtain ⟨u, e1, e2⟩ := q2 i hil
          refine ⟨u, e1, ?_⟩
          rw [hget, List.getElem?_eq_getElem hil] at hget2
          simp only [Option.some.injEq] at hget2
          rw [← hget2]
          exact e2.mono g
      · obtain ⟨i, hi1, rfl⟩ := List.getElem_of_mem hy
        have hget := setRange_get cs off ys hle i
        rw [List.getElem?_eq_getElem hi1] at hget
        split at hget
        · exact hone _ (List.mem_of_getElem? hget.symm)
        · exact q3 _ (List.mem_of_getElem? hget.symm)
      · rw [h2] at a3
        rw [setRange_length _ _ _ hle]
        exact q4 i a1 a2 a3)
  exact ⟨_, _, hrun, hu.1, hu.2⟩

def aCopy (P : Program) (dT : TypeId) (d s : AV) (σ : Heap) : Option (List Prop × AV × Heap) :=
  match elemInfo P dT with
  | some (_, sz, _) => match aSrc sz s σ with
    | some (C, n, ys) => match d with
      | .ms id ver off len s' _ => match σ[id]? with
        | some (cur, some (.cells cs ⟨false, gT⟩)) => some (C ++ [∀ y ∈ ys, y.one = true, ver = cur, s' = sz, off + n * sz ≤ cs.length, n ≤ len, 0 < n, 0 < sz], .int .i64 n, σ.set id (cur, some (.cells (setRange cs off ys) ⟨false, gT⟩)))
        | _ => none
      | _ => none
    | none => none
  | none => none

theorem aCopy_run {cx : Cx} {r : Rl} {σ σ' : Heap} {w : World} {dT sT ty : TypeId} {d s : Value} {d' s' v : AV} {C : List Prop} (hi : Inv cx r σ w) (h : aCopy cx.P dT d' s' σ = some (C, v, σ')) (hC : AllP C)
    (hd : VRel r w d d') (hs : VRel r w s s') :
    ∃ v' w' r', (Builtin.copy_ #[dT, sT] ty #[d, s]).run cx.P w = .ok v' w' ∧ VRel r' w' v' v ∧ Inv cx r' σ' w' ∧ Ext r σ w r' σ' w' := by
  unfold aCopy at h
  split at h
  case h_2 => cases h
  rename_i e sz by_ hel
  obtain ⟨i, z, hu, hinfo, hz, hz1, hz2, hz3⟩ := elemInfo_some hel
  split at h
  case h_2 => cases h
  rename_i C0 n ys hsrc
  split at h
  case h_2 => cases h
  rename_i id ver off len s0 fl
  split at h
  case h_2 => cases h
  rename_i cur cs hσ
  simp only [Option.some.injEq, Prod.mk.injEq] at h; obtain ⟨rfl, rfl, rfl⟩ := h
  obtain ⟨hC0, hone, hv, hs0, hle, hnl, hn0, hsz0, _⟩ := AllP_append hC
  subst hv; subst hs0
  obtain ⟨hl1, hl2, news, hl3, hl4⟩ := aSrc_run hi hsrc hC0 hs
  cases hd with
  | ms0 => omega
  | ms hρ hcap hnc hff =>
    rename_i b o cap
    have hpos : 0 < n * s0 := Nat.mul_pos hn0 hsz0
    obtain ⟨w', r', h1, h2, h3⟩ := cells_store hi hσ (by rw [hl2]; exact hle) hone hl3 hρ (by omega)
    have hszo : szOf cx.P e = some s0 := by simp [szOf, hinfo, hz2]
    have hmin : Nat.min n len = n := Nat.min_eq_left hnl
    refine ⟨.int .i64 n, w', r', ?_, .int, h2, h3⟩
    simp only [Builtin.copy_, List.getElem?_toArray, List.getElem?_cons_zero, List.getElem?_cons_succ, Sem.run_bind, run_underlying hu, Result.andThen_ok, hl1, hmin, run_sizeOf' hszo, hl4 w rfl, List.toList_toArray, h1, Sem.run_pure, goInt]

/-- All operations but calls of functions, and those whose outcome hangs on a test. -/
def aOp (cx : Cx) (M : List Nat) (dst : Option Nat) (o : Op) (fr : Fr) (σ : Heap) : Option (List Prop × AV × Heap) :=
  match o with
  | .alloc e => match zeroA cx.P e with
    | some z => bif allOne z then match allocH σ (.cells z ⟨false, tyS cx.P e⟩) with
        | (id, ver, σ') => some ([], .ptr id ver 0, σ')
      else none
    | none => none
  | .box e x => bif allOne (ev cx fr x).cells then match allocH σ (.cells (ev cx fr x).cells ⟨false, tyS cx.P e⟩) with
        | (id, ver, σ') => some ([], .ptr id ver 0, σ')
      else none
  | .build t ps => match aBuild cx.P t (ps.toList.map fun p => (p.1, ev cx fr p.2)) with
    | some v => some ([], v, σ)
    | none => none
  | .buildSlice t len ps => match aLit cx.P (inM dst M) t len (ps.toList.map fun p => (p.1, ev cx fr p.2)) σ with
    | some (v, σ') => some ([], v, σ')
    | none => none
  | .store t a x => match aStore cx.P t (ev cx fr a) (ev cx fr x) σ with
    | some (C, σ') => some (C, .tup [], σ')
    | none => none
  | .makeSlice t l c => aMake cx.P t (ev cx fr l) (ev cx fr c) σ
  | .range t x => match cx.P.underlying t, ev cx fr x with
    | some .string, .str s => match allocH σ (.siter s 0) with
      | (id, ver, σ') => some ([], .ptr id ver 0, σ')
    | _, _ => none
  | .convert s d x => match aBytes cx.P (inM dst M) s d (ev cx fr x) σ with
    | some (v, σ') => some ([], v, σ')
    | none => match aConv cx.P s d (ev cx fr x) σ with
      | some (C, v) => some (C, v, σ)
      | none => none
  | .call { callee := .builtin .append, args := args, argTypes := ts } => match args.toList, ts.toList with
    | [s, x], [t, u] => aAppend cx.P t u (ev cx fr s) (ev cx fr x) σ
    | _, _ => none
  | .call { callee := .builtin .copy, args := args, argTypes := ts } => match args.toList, ts.toList with
    | [d, s], [t, _] => aCopy cx.P t (ev cx fr d) (ev cx fr s) σ
    | _, _ => none
  | o => match aPure cx o fr σ with
    | some (C, v) => some (C, v, σ)
    | none => none

theorem aOp_run {cx : Cx} {M : List Nat} {r : Rl} {σ σ' : Heap} {w : World} {n : Nat} {fr : Fr} {a : Act} {o : Oper} {C : List Prop} {v : AV} (hi : Inv cx r σ w) (hf : FRel r w n fr a)
    (h : aOp cx M o.dst o.op fr σ = some (C, v, σ')) (hC : AllP C) : OpRes cx r σ w ((execOp a.eval o).run cx.P w) v σ' := by
  have he : ∀ x, VRel r w (a.eval x) (ev cx fr x) := fun x => ev_rel hi hf x
  have hpure : ∀ {C : List Prop} {v : AV}, aPure cx o.op fr σ = some (C, v) → AllP C → OpRes cx r σ w ((execOp a.eval o).run cx.P w) v σ := by
    intro C v h hC
    obtain ⟨v', h1, h2⟩ := aPure_run hi hf h hC
    exact ⟨r, w, v', .inl h1, h2, hi, Ext.refl _ _ _⟩
  have q : ∀ {s : Sem Value} {v : AV} {σ' : Heap}, (∃ v' w' r', s.run cx.P w = .ok v' w' ∧ VRel r' w' v' v ∧ Inv cx r' σ' w' ∧ Ext r σ w r' σ' w') →
      OpRes cx r σ w ((do let x ← s; pure (Next.value x) : Sem Next).run cx.P w) v σ' := by
    rintro s v σ' ⟨v', w', r', h1, h2, h3, h4⟩
    exact ⟨r', w', v', .inl (by simp [h1]), h2, h3, h4⟩
  have hparts : ∀ ps : Array (Nat × Operand), ∀ i (h : i < (ps.toList.map fun p => (p.1, ev cx fr p.2)).length) (h' : i < ((ps.map fun p => (p.1, a.eval p.2)).toList).length),
      ((ps.toList.map fun p => (p.1, ev cx fr p.2))[i]).1 = (((ps.map fun p => (p.1, a.eval p.2)).toList)[i]).1 ∧ VRel r w (((ps.map fun p => (p.1, a.eval p.2)).toList)[i]).2 ((ps.toList.map fun p => (p.1, ev cx fr p.2))[i]).2 := by
    intro ps i h h'
    simp only [Array.toList_map, List.getElem_map]
    exact ⟨by trivial, he _⟩
  obtain ⟨dst, op, ty, pos, after, guard⟩ := o
  simp only at h hpure
  unfold aOp at h
  split at h
  · -- alloc
    rename_i e
    split at h
    case h_2 => cases h
    rename_i z hz
    obtain ⟨inf, zv, hinfo, hzv, rfl⟩ := zeroA_some hz
    cases hb : allOne (zv.cells.toList.map cst1) with
    | false => rw [hb] at h; cases h
    | true =>
    rw [hb] at h
    simp only [cond_true] at h
    generalize hal : allocH σ _ = al at h
    obtain ⟨id, ver, σ1⟩ := al
    simp only [Option.some.injEq, Prod.mk.injEq] at h; obtain ⟨rfl, rfl, rfl⟩ := h
    obtain ⟨r', k1, k2, k3, k4, k5⟩ := hi.newCells (c := zv.cells) (t := e) hal (cst1_cells r w zv) (allOne_mem hb) (fun T h => tyS_eq h)
    unfold execOp
    refine q ⟨.pointer (some ⟨w.heap.size, 0, none⟩), _, r', ?_, VRel.ptr (o := 0) (off := 0) k3, k1, k2⟩
    simp [Instr.alloc, run_zeroValue hinfo hzv, newVar, newRow]
  · -- box
    rename_i e x
    have hx := he x
    cases hb : allOne (ev cx fr x).cells with
    | false => rw [hb] at h; cases h
    | true =>
    rw [hb] at h
    simp only [cond_true] at h
    generalize hal : allocH σ _ = al at h
    obtain ⟨id, ver, σ1⟩ := al
    simp only [Option.some.injEq, Prod.mk.injEq] at h; obtain ⟨rfl, rfl, rfl⟩ := h
    have hone := allOne_mem hb
    have htop : (ev cx fr x).blank = false := AV.blank_of hone
    obtain ⟨h1, h2⟩ := hx.cells htop
    obtain ⟨r', k1, k2, k3, k4, k5⟩ := hi.newCells (c := (a.eval x).cells) (t := e) hal h2 hone (fun T h => tyS_eq h)
    unfold execOp
    refine q ⟨.pointer (some ⟨w.heap.size, 0, none⟩), _, r', ?_, VRel.ptr (o := 0) (off := 0) k3, k1, k2⟩
    simp [Instr.box, newVar, newRow]
  · -- build
    rename_i t ps
    split at h
    case h_2 => cases h
    rename_i u hb
    simp only [Option.some.injEq, Prod.mk.injEq] at h; obtain ⟨rfl, rfl, rfl⟩ := h
    obtain ⟨v', h1, h2⟩ := aBuild_run hb (by simp) (hparts ps)
    unfold execOp
    exact q ⟨v', w, r, h1, h2, hi, Ext.refl _ _ _⟩
  · -- buildSlice
    rename_i t len ps
    split at h
    case h_2 => cases h
    rename_i u σ1 hb
    simp only [Option.some.injEq, Prod.mk.injEq] at h; obtain ⟨rfl, rfl, rfl⟩ := h
    unfold execOp
    exact q (aLit_run hi hb (by simp) (hparts ps))
  · -- store
    rename_i t y x
    split at h
    case h_2 => cases h
    rename_i C1 σ1 hb
    simp only [Option.some.injEq, Prod.mk.injEq] at h; obtain ⟨rfl, rfl, rfl⟩ := h
    obtain ⟨w', r', h1, h2, h3⟩ := aStore_run hi hb hC (he y) (he x)
    refine ⟨r', w', undef, .inr ⟨?_, rfl⟩, .tup rfl (fun i h => absurd h (by simp)), h2, h3⟩
    simp [execOp, h1]
  · unfold execOp
    exact q (aMake_run hi h hC (he _) (he _))
  · -- range
    rename_i t x
    have hx := he x
    split at h
    case h_2 => cases h
    rename_i s hu hxe
    rw [hxe] at hx
    generalize hal : allocH σ _ = al at h
    obtain ⟨id, ver, σ1⟩ := al
    simp only [Option.some.injEq, Prod.mk.injEq] at h; obtain ⟨rfl, rfl, rfl⟩ := h
    unfold execOp
    refine q ?_
    try simp only
    generalize a.eval x = y at hx ⊢
    cases hx with
    | str hs =>
      rename_i u
      have hn := hi.new (ob := .stringIter u 0) hal (fun g => ⟨rfl, u, hs, heap_alloc_self w _⟩)
      refine ⟨.pointer (some ⟨w.heap.size, 0, none⟩), w.alloc (.stringIter u 0), _, ?_, VRel.ptr (o := 0) (off := 0) (by simp [Rl.bind]), hn.1, hn.2⟩
      simp [Instr.range, run_underlying hu]
  · -- convert
    rename_i s d x
    unfold execOp
    split at h
    · rename_i u σ1 hb
      simp only [Option.some.injEq, Prod.mk.injEq] at h; obtain ⟨rfl, rfl, rfl⟩ := h
      exact q (aBytes_run hi hb (he x))
    · split at h
      case h_2 => cases h
      rename_i C1 u hb
      simp only [Option.some.injEq, Prod.mk.injEq] at h; obtain ⟨rfl, rfl, rfl⟩ := h
      obtain ⟨v', h1, h2⟩ := aConv_run hi hb hC (he x)
      exact q ⟨v', w, r, h1, h2, hi, Ext.refl _ _ _⟩
  · -- append
    rename_i args ts
    obtain ⟨bs, hbs⟩ := run_len_call cx.P w a.eval .append args ts dst ty pos after guard
    rw [hbs]
    split at h
    · rename_i s x t u hargs hts
      have h1 : args = #[s, x] := by rw [← Array.toArray_toList (xs := args), hargs]
      have h2 : ts = #[t, u] := by rw [← Array.toArray_toList (xs := ts), hts]
      subst h1; subst h2
      simp only [builtin, List.map_toArray, List.map_cons, List.map_nil]
      exact q (aAppend_run hi h hC (he s) (he x))
    · cases h
  · -- copy
    rename_i args ts
    obtain ⟨bs, hbs⟩ := run_len_call cx.P w a.eval .copy args ts dst ty pos after guard
    rw [hbs]
    split at h
    · rename_i s x t u hargs hts
      have h1 : args = #[s, x] := by rw [← Array.toArray_toList (xs := args), hargs]
      have h2 : ts = #[t, u] := by rw [← Array.toArray_toList (xs := ts), hts]
      subst h1; subst h2
      simp only [builtin, List.map_toArray, List.map_cons, List.map_nil]
      exact q (aCopy_run hi h hC (he s) (he x))
    · cases h
  · split at h
    · rename_i C1 u hp
      simp only [Option.some.injEq, Prod.mk.injEq] at h; obtain ⟨rfl, rfl, rfl⟩ := h
      exact hpure hp hC
    · cases h

end Go.Ab
