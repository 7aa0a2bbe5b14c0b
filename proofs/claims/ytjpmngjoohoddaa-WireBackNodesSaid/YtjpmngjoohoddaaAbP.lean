/-
  Calls: what a function does, said of abstract values; functions that are handed nothing to change.
-/
import Derived.Test.YtjpmngjoohoddaaAbO
set_option linter.unusedVariables false
set_option linter.unusedSimpArgs false
namespace Go.Ab
open Go

inductive Out where
  | ret (v : AV)
  | panic (v : AV)

def ORel (r : Rl) (w : World) : Ending → Out → Prop
  | .returned v, .ret a => VRel r w v a
  | .panicked chain, .panic a => ∃ v, chain = [{ v, recovered := false }] ∧ VRel r w v a
  | _, _ => False

def Enters (P : Program) (f : FuncId) : Prop := ∀ (args : Array Value) (w : World), (callFunc f args).run P w = .ok (.enter f args) w

def VRels (r : Rl) (w : World) (vs : Array Value) (as : List AV) : Prop := vs.size = as.length ∧ ∀ i (h : i < as.length), VRel r w (vs.getD i undef) as[i]

/-- What a call comes to, out of a heap. -/
def CallOk (cx : Cx) (f : FuncId) (args : List AV) (σ : Heap) (R : Out → Heap → Prop) : Prop :=
  Enters cx.P f ∧ ∀ r w vs, Inv cx r σ w → VRels r w vs args → Calls cx.P f vs w fun e w' => ∃ o σ' r', R o σ' ∧ ORel r' w' e o ∧ Inv cx r' σ' w' ∧ Ext r σ w r' σ' w'

theorem CallOk.mono {cx : Cx} {f : FuncId} {args : List AV} {σ : Heap} {R R' : Out → Heap → Prop} (h : CallOk cx f args σ R) (hr : ∀ o σ', R o σ' → R' o σ') : CallOk cx f args σ R' :=
  ⟨h.1, fun r w vs hi hv => (h.2 r w vs hi hv).mono fun e w' ⟨o, σ', r', h1, h2⟩ => ⟨o, σ', r', hr _ _ h1, h2⟩⟩

def enterFr : Nat → List AV → Fr
  | _, [] => []
  | i, a :: r => (i, a) :: enterFr (i + 1) r

theorem enterFr_get : ∀ (as : List AV) (i t : Nat), (enterFr i as).get t = if i ≤ t then as.getD (t - i) .top else .top
  | [], i, t => by simp [enterFr, Fr.get]
  | a :: r, i, t => by
    simp only [enterFr]
    rw [Fr.get_cons, enterFr_get r]
    by_cases h : i = t
    · subst h; simp
    · rw [if_neg h]
      by_cases h2 : i ≤ t
      · rw [if_pos h2, if_pos (by omega)]
        rw [show t - i = (t - (i + 1)) + 1 by omega, List.getD_cons_succ]
      · rw [if_neg h2, if_neg (by omega)]

theorem enter_rel {r : Rl} {w : World} {vs : Array Value} {as : List AV} {n : Nat} (h : VRels r w vs as) (hn : as.length ≤ n) :
    FRel r w n (enterFr 0 as) { tmps := vs ++ Array.replicate (n - vs.size) undef, defers := [] } := by
  refine ⟨by simp [h.1]; omega, fun t => ?_, fun vs hm => ?_⟩
  case refine_2 =>
    rw [enterFr_get, if_pos (Nat.zero_le _), Nat.sub_zero] at hm
    simp [List.getD, List.getElem?_eq_none hn] at hm
  rw [enterFr_get, if_pos (Nat.zero_le _), Nat.sub_zero]
  by_cases ht : t < as.length
  · have h1 := h.2 t ht
    have h2 : t < vs.size := by rw [h.1]; exact ht
    have h3 : as.getD t .top = as[t] := by simp [List.getD, ht]
    rw [h3]
    have h4 : (vs ++ Array.replicate (n - vs.size) undef).getD t undef = vs.getD t undef := by
      simp only [Array.getD_eq_getD_getElem?]
      rw [Array.getElem?_append_left h2]
    simp only [h4]
    exact h1
  · have h3 : as.getD t .top = .top := by simp [List.getD, Nat.le_of_not_lt ht]
    rw [h3]
    exact .top

/-- What a function's results are. -/
def resOne (cx : Cx) (fr : Fr) (σ : Heap) : ResultVar → Option (List Prop × AV)
  | .tmp t => some ([], fr.get t)
  | .cell a t => match fr.get a with
    | .ptr id ver off => match boxAt σ id with
      | some (cur, cs, _) => match aLoad cx.P t (cs.drop off) with
        | some v => some ([ver = cur], v)
        | none => none
      | none => none
    | _ => none

def resAll (cx : Cx) (fr : Fr) (σ : Heap) : List ResultVar → Option (List Prop × List AV)
  | [] => some ([], [])
  | x :: r => match resOne cx fr σ x with
    | some (C, v) => match resAll cx fr σ r with
      | some (D, vs) => some (C ++ D, v :: vs)
      | none => none
    | none => none

def tupOf : List AV → AV
  | [v] => v
  | vs => .tup vs

def resF (a : Act) : ResultVar → Sem Value
  | .tmp t => pure (a.tmps.getD t undef)
  | .cell b t => do loadVar t (← asAddr (a.tmps.getD b undef))

theorem resOne_run {cx : Cx} {r : Rl} {σ : Heap} {w : World} {n : Nat} {fr : Fr} {a : Act} {x : ResultVar} {C : List Prop} {v : AV} (hi : Inv cx r σ w) (hf : FRel r w n fr a) (h : resOne cx fr σ x = some (C, v)) (hC : AllP C) :
    ∃ v', (resF a x).run cx.P w = .ok v' w ∧ VRel r w v' v := by
  cases x with
  | tmp t =>
    simp only [resOne, Option.some.injEq, Prod.mk.injEq] at h
    obtain ⟨rfl, rfl⟩ := h
    exact ⟨_, rfl, hf.get t⟩
  | cell b t =>
    simp only [resOne] at h
    have hb := hf.get b
    split at h
    case h_2 => cases h
    rename_i id ver off hbe
    rw [hbe] at hb
    split at h
    case h_2 => cases h
    rename_i cur cs ro hbx
    split at h
    case h_2 => cases h
    rename_i u hl
    simp only [Option.some.injEq, Prod.mk.injEq] at h
    obtain ⟨rfl, rfl⟩ := h
    generalize hz : a.tmps.getD b undef = z at hb
    cases hb
    rename_i b' o hρ
    obtain ⟨v', h1, h2⟩ := aLoad_run (P := cx.P) ((hi.cells hbx hC.1 hρ).cells'.drop off) hl
    exact ⟨v', by simp only [resF, Sem.run_bind]; rw [hz]; simp only [asAddr, Sem.run_pure, Result.andThen_ok]; exact h1, h2⟩

theorem resAll_run {cx : Cx} {r : Rl} {σ : Heap} {w : World} {n : Nat} {fr : Fr} {a : Act} (hi : Inv cx r σ w) (hf : FRel r w n fr a) : ∀ {xs : List ResultVar} {C : List Prop} {vs : List AV}, resAll cx fr σ xs = some (C, vs) → AllP C →
    ∃ vs' : List Value, (xs.mapM (resF a)).run cx.P w = .ok vs' w ∧ vs'.length = vs.length ∧ ∀ i (h : i < vs.length) (h' : i < vs'.length), VRel r w vs'[i] vs[i]
  | [], C, vs, h, hC => by
    simp only [resAll, Option.some.injEq, Prod.mk.injEq] at h
    obtain ⟨rfl, rfl⟩ := h
    exact ⟨[], rfl, rfl, fun i h => absurd h (by simp)⟩
  | x :: xs, C, vs, h, hC => by
    simp only [resAll] at h
    split at h
    case h_2 => cases h
    rename_i C1 v h1
    split at h
    case h_2 => cases h
    rename_i D us h2
    simp only [Option.some.injEq, Prod.mk.injEq] at h
    obtain ⟨rfl, rfl⟩ := h
    obtain ⟨hC1, hD⟩ := AllP_append hC
    obtain ⟨v', k1, k2⟩ := resOne_run hi hf h1 hC1
    obtain ⟨us', k3, k4, k5⟩ := resAll_run hi hf h2 hD
    refine ⟨v' :: us', ?_, by simp [k4], fun i h h' => ?_⟩
    · simp only [List.mapM_cons, Sem.run_bind]
      rw [k1]
      simp only [Result.andThen_ok]
      rw [k3]
      rfl
    · cases i with
      | zero => exact k2
      | succ i => simpa using k5 i (by simpa using h) (by simpa using h')

theorem results_run {cx : Cx} {r : Rl} {σ : Heap} {w : World} {n : Nat} {fr : Fr} {a : Act} {fn : Func} {C : List Prop} {vs : List AV} (hi : Inv cx r σ w) (hf : FRel r w n fr a) (h : resAll cx fr σ fn.results.toList = some (C, vs)) (hC : AllP C) :
    ∃ v', (results fn a.tmps).run cx.P w = .ok v' w ∧ VRel r w v' (tupOf vs) := by
  obtain ⟨vs', h1, h2, h3⟩ := resAll_run hi hf h hC
  have hm : (fn.results.mapM (resF a)).run cx.P w = .ok vs'.toArray w := by
    rw [← Array.toList_mapM] at h1
    simp only [Sem.run_map] at h1
    revert h1
    generalize (fn.results.mapM (resF a)).run cx.P w = q
    intro h1
    cases q with
    | ok a w' =>
      simp only [Result.andThen_ok, Result.ok.injEq] at h1
      obtain ⟨rfl, rfl⟩ := h1
      simp
    | halt => simp at h1
  refine ⟨if h : vs'.toArray.size = 1 then vs'.toArray[0] else .tuple vs'.toArray, ?_, ?_⟩
  · have hres : results fn a.tmps = (do let vs ← fn.results.mapM (resF a); pure (if h : vs.size = 1 then vs[0] else .tuple vs)) := by
      unfold results
      have : (fun x => match x with | ResultVar.tmp t => pure (a.tmps.getD t undef) | ResultVar.cell b t => do loadVar t (← asAddr (a.tmps.getD b undef)) : ResultVar → Sem Value) = resF a := by funext x; cases x <;> rfl
      rw [← this]
      rfl
    rw [hres]
    simp only [Sem.run_bind, hm, Result.andThen_ok, Sem.run_pure]
  · by_cases h1 : vs'.toArray.size = 1
    · rw [dif_pos h1]
      have hl : vs'.length = 1 := by simpa using h1
      match vs, h2, h3 with
      | [v], _, h3 => simpa [tupOf] using h3 0 (by simp) (by omega)
      | [], h2, _ => exact absurd (hl.symm.trans h2) (by simp)
      | _ :: _ :: _, h2, _ => exact absurd (hl.symm.trans h2) (by simp)
    · rw [dif_neg h1]
      have hl : vs'.length ≠ 1 := by simpa using h1
      have ht : tupOf vs = .tup vs := by
        unfold tupOf
        split
        · simp at h2; omega
        · rfl
      rw [ht]
      refine .tup (by simp [h2]) (fun i hi => ?_)
      have := h3 i hi (by omega)
      rw [getD_of_lt _ _ _ (by simp; omega)]
      simpa using this

def retQ (cx : Cx) (fn : Func) (R : Out → Heap → Prop) : Post := fun e fr σ =>
  match e with
  | .normal => ∃ C vs, resAll cx fr σ fn.results.toList = some (C, vs) ∧ AllP C ∧ R (.ret (tupOf vs)) σ
  | .ret => ∃ C vs, resAll cx fr σ fn.results.toList = some (C, vs) ∧ AllP C ∧ R (.ret (tupOf vs)) σ
  | .panic v => R (.panic v) σ
  | _ => False

theorem callOk_intro {cx : Cx} {f : FuncId} {fn : Func} {c : Code} {n : Nat} {args : List AV} {σ : Heap} {R : Out → Heap → Prop} (he : Enters cx.P f) (hf : cx.P.funcs[f]? = some fn) (hb : fn.body = some c) (hn : fn.ntmps = n) (ha : Nat.ble args.length n = true)
    (h : ∀ B, S cx n B [.code c] (retQ cx fn R) (enterFr 0 args) σ) : CallOk cx f args σ R := by
  refine ⟨he, fun r w vs hi hv => ?_⟩
  subst hn
  refine calls_of_wp hf hb ?_
  have hwp := h ⟨r, σ, w, false⟩ r _ w hi (enter_rel hv (Nat.le_of_ble_eq_true ha)) (fun _ => rfl) (Ext.refl _ _ _)
  refine wp_mono hwp fun e a w' hq => ?_
  obtain ⟨ae, fr', σ', r', hq, he, hi', hf', hd', hx'⟩ := hq
  cases e <;> cases ae <;> first | exact he.elim | skip
  · obtain ⟨C, us, h1, h2, h3⟩ := hq
    obtain ⟨v', h4, h5⟩ := results_run (fn := fn) hi' hf' h1 h2
    exact ⟨hd' rfl, v', h4, _, σ', r', h3, h5, hi', hx'⟩
  · exact hq.elim
  · exact hq.elim
  · obtain ⟨C, us, h1, h2, h3⟩ := hq
    obtain ⟨v', h4, h5⟩ := results_run (fn := fn) hi' hf' h1 h2
    exact ⟨hd' rfl, v', h4, _, σ', r', h3, h5, hi', hx'⟩
  · exact ⟨hd' rfl, _, σ', r', hq, he, hi', hx'⟩

/-- The function and the arguments of a call. -/
def callA (cx : Cx) (fr : Fr) (o : Op) : Option (FuncId × List AV) :=
  match o with
  | .call { callee := .value f, args := args, .. } => match ev cx fr f with
    | .func (.func g) first captured => some (g, first ++ args.toList.map (ev cx fr) ++ captured)
    | _ => none
  | _ => none

theorem callA_go {cx : Cx} {r : Rl} {σ : Heap} {w : World} {n : Nat} {fr : Fr} {a : Act} {o : Oper} {f : FuncId} {args : List AV} (hi : Inv cx r σ w) (hf : FRel r w n fr a) (h : callA cx fr o.op = some (f, args)) :
    ∃ vs, (execOp a.eval o).run cx.P w = (callFunc f vs).run cx.P w ∧ VRels r w vs args := by
  have hev : ∀ x, VRel r w (a.eval x) (ev cx fr x) := fun x => ev_rel hi hf x
  obtain ⟨dst, op, ty, pos, aft, guard⟩ := o
  simp only at h
  unfold callA at h
  split at h
  case h_2 => cases h
  rename_i fo as ts
  have hfo := hev fo
  split at h
  case h_2 => cases h
  rename_i g first captured hfe
  rw [hfe] at hfo
  simp only [Option.some.injEq, Prod.mk.injEq] at h
  obtain ⟨rfl, rfl⟩ := h
  simp only [execOp, resolve, Sem.run_bind]
  generalize a.eval fo = z at hfo
  cases hfo with
  | func h1 h2 h3 h4 =>
    rename_i cf cc
    refine ⟨cf ++ as.map a.eval ++ cc, ?_, by simp [h1, h3], fun i hil => ?_⟩
    · simp only [Deferred.ofValue, Sem.run_pure, Result.andThen_ok, invoke]
    · simp only [List.length_append, List.length_map, Array.length_toList] at hil
      by_cases hi1 : i < first.length
      · have : (cf ++ as.map a.eval ++ cc).getD i undef = cf.getD i undef := by
          simp only [Array.getD_eq_getD_getElem?]
          rw [Array.getElem?_append_left (by simp [h1]; omega), Array.getElem?_append_left (by omega)]
        rw [this]
        simp only [List.append_assoc]
        rw [List.getElem_append_left hi1]
        exact h2 i hi1
      · by_cases hi2 : i < first.length + as.size
        · have : (cf ++ as.map a.eval ++ cc).getD i undef = a.eval (as[i - first.length]'(by omega)) := by
            simp only [Array.getD_eq_getD_getElem?]
            rw [Array.getElem?_append_left (by simp [h1]; omega), Array.getElem?_append_right (by omega), h1]
            rw [Array.getElem?_map, Array.getElem?_eq_getElem (by omega)]
            rfl
          rw [this]
          rw [List.getElem_append_left (by simp; omega), List.getElem_append_right (by omega)]
          simpa using hev _
        · have : (cf ++ as.map a.eval ++ cc).getD i undef = cc.getD (i - (first.length + as.size)) undef := by
            simp only [Array.getD_eq_getD_getElem?]
            rw [Array.getElem?_append_right (by simp [h1]; omega)]
            congr 2
            simp [h1]
          rw [this]
          rw [List.getElem_append_right (by simp; omega)]
          have h5 := h4 (i - (first.length + as.size)) (by omega)
          simpa using h5

theorem callA_run {cx : Cx} {r : Rl} {σ : Heap} {w : World} {n : Nat} {fr : Fr} {a : Act} {o : Oper} {f : FuncId} {args : List AV} (hi : Inv cx r σ w) (hf : FRel r w n fr a) (h : callA cx fr o.op = some (f, args)) (he : Enters cx.P f) :
    ∃ vs, (execOp a.eval o).run cx.P w = .ok (.enter f vs) w ∧ VRels r w vs args := by
  obtain ⟨vs, h1, h2⟩ := callA_go hi hf h
  exact ⟨vs, by rw [h1]; exact he _ _, h2⟩

section
variable {cx : Cx} {n : Nat} {B : Bs} {k : List AI} {Q : Post} {fr : Fr} {σ : Heap}

theorem S_call {all : Array Oper} {o : Oper} {l : List Oper} {K : List Nat} {f : FuncId} {args : List AV} {R : Out → Heap → Prop} (hg : guardA all o K fr = some true) (hc : callA cx fr o.op = some (f, args)) (hd : dstOk n o.dst = true)
    (hcall : CallOk cx f args σ R) (hr : ∀ v σ', R (.ret v) σ' → S cx n B (.ops all l K :: k) Q (setA o.dst v fr) σ') (hp : ∀ v σ', R (.panic v) σ' → Q (.panic v) fr σ') : S cx n B (.ops all (o :: l) K :: k) Q fr σ := by
  intro r a w hi hf hdf hx
  have hw := guardA_wanted (cx := cx) hf hg
  obtain ⟨vs, h1, h2⟩ := callA_run hi hf hc hcall.1
  unfold wpList
  rw [if_pos hw]
  refine .inl ?_
  unfold Oper.wp
  rw [h1, Oper.upon_enter]
  refine (hcall.2 r w vs hi h2).mono fun e w' ⟨out, σ', r', hR, ho, hi', hx'⟩ => ?_
  have hg' := hx'.grow hi
  cases e <;> cases out <;> first | exact ho.elim | skip
  · exact hr _ σ' hR r' _ w' hi' ((hf.mono hg').setA hd ho) (hdf.put _ _) (hx.trans hx')
  · refine Lift.mk (ae := .panic _) ?_ ho hi' (hf.mono hg') hdf (hx.trans hx')
    rw [after_panic]
    exact hp _ σ' hR

end

/-- Values without an address of the abstract heap; 'st': without anything that may turn behind this call. -/
inductive Free (st : Bool) : AV → Prop
  | top : Free st .top
  | bool {b} : Free st (.bool b)
  | int {k n} : Free st (.int k n)
  | str {s} : Free st (.str s)
  | nilp : Free st .nilp
  | nils : Free st .nils
  | nilm : Free st .nilm
  | nilf : Free st .nilf
  | nili : Free st .nili
  | rp {b cs} (h : st = true → b = true) (hx : ∀ x ∈ cs, Free st x) : Free st (.rp b cs)
  | sl {b fl sz xs} (h : st = true → b = true) (hx : ∀ x ∈ xs, Free st x) : Free st (.sl b fl sz xs)
  | iface {t v} (h : Free st v) : Free st (.iface t v)
  | agg {cs} (h : ∀ x ∈ cs, Free st x) : Free st (.agg cs)
  | tup {cs} (h : ∀ x ∈ cs, Free st x) : Free st (.tup cs)
  | func {fn a b} (h : ∀ x ∈ a, Free st x) (h' : ∀ x ∈ b, Free st x) : Free st (.func fn a b)

theorem Free.cells {st : Bool} {a : AV} (h : Free st a) : ∀ x ∈ a.cells, Free st x := by
  cases a with
  | agg cs => cases h; assumption
  | _ => intro x hx; simp only [AV.cells, List.mem_singleton] at hx; subst hx; exact h

theorem VRel.free {st : Bool} {r r' : Rl} {w : World} {v : Value} {a : AV} (h : VRel r w v a) (hf : Free st a) (hS : ∀ b, r.S b → r'.S b) (hSI : ∀ b, r'.S b → r'.I b) (hI : st = false → ∀ b, r.I b → r'.I b) : VRel r' w v a := by
  induction h with
  | top => exact .top
  | mark => exact .mark
  | bool => exact .bool
  | int => exact .int
  | str h => exact .str h
  | nilp => exact .nilp
  | ptr h => cases hf
  | eptr h => cases hf
  | rp hI' hS' f hc _ ih =>
    cases hf with
    | rp hb hx =>
      refine .rp ?_ (fun h => hS _ (hS' h)) f hc (fun i hi => ih i hi (hx _ (List.getElem_mem hi)))
      cases hst : st with
      | true => exact hSI _ (hS _ (hS' (hb hst)))
      | false => exact hI hst _ hI'
  | nils => exact .nils
  | sl0 h => exact .sl0 h
  | sl hn hc0 hf' hI' hS' hsz f hc _ ih =>
    cases hf with
    | sl hb hx =>
      refine .sl hn hc0 hf' ?_ (fun h => hS _ (hS' h)) hsz f hc (fun e he j hj => ih e he j hj ((hx _ (List.getElem_mem he)).cells _ (List.getElem_mem hj)))
      cases hst : st with
      | true => exact hSI _ (hS _ (hS' (hb hst)))
      | false => exact hI hst _ hI'
  | ms0 => cases hf
  | ms h hcap hn hf' => cases hf
  | nilm => exact .nilm
  | map h => cases hf
  | func h1 _ h2 _ ih1 ih2 =>
    cases hf with
    | func ha hb => exact .func h1 (fun i hi => ih1 i hi (ha _ (List.getElem_mem hi))) h2 (fun i hi => ih2 i hi (hb _ (List.getElem_mem hi)))
  | nilf => exact .nilf
  | iface _ ih => cases hf with | iface h => exact .iface (ih h)
  | nili => exact .nili
  | agg hn _ ih => cases hf with | agg h => exact .agg hn (fun i hi => ih i hi (h _ (List.getElem_mem hi)))
  | tup hn _ ih => cases hf with | tup h => exact .tup hn (fun i hi => ih i hi (h _ (List.getElem_mem hi)))

/-- A value that is handed on without its addresses: a slice in a box becomes its contents. -/
inductive Frz (st : Bool) (σ : Heap) : AV → AV → Prop
  | refl {a} (h : Free st a) : Frz st σ a a
  | nils {b fl sz} : Frz st σ .nils (.sl b fl sz [])
  | lend {b fl fl' sz xs} (hst : st = false) (hfl : fl' = true → fl = true) (hx : ∀ x ∈ xs, Free st x) : Frz st σ (.sl b fl sz xs) (.sl false fl' sz xs)
  | full {b fl sz xs} (hb : st = true → b = true) (hx : ∀ x ∈ xs, Free st x) : Frz st σ (.sl b fl sz xs) (.sl b false sz xs)
  | ms {id ver off len sz full cs ro xs} (hb : boxAt σ id = some (ver, cs, ro)) (hle : off + len * sz ≤ cs.length) (hx : (cs.drop off).take (len * sz) = xs.flatMap AV.cells) (hsz : ∀ x ∈ xs, x.cells.length = sz) (hl : xs.length = len)
      (hf : ∀ x ∈ xs, Free st x) : Frz st σ (.ms id ver off len sz full) (.sl st false sz xs)
  | agg {as bs} (hl : as.length = bs.length) (h : ∀ i (h : i < as.length) (h' : i < bs.length), Frz st σ as[i] bs[i]) : Frz st σ (.agg as) (.agg bs)
  | tup {as bs} (hl : as.length = bs.length) (h : ∀ i (h : i < as.length) (h' : i < bs.length), Frz st σ as[i] bs[i]) : Frz st σ (.tup as) (.tup bs)

theorem Cells.sl {r : Rl} {w : World} {st fl : Bool} {b o n cap sz : Nat} {xs : List AV} (hn : n = xs.length) (hc0 : n ≤ cap) (hf : fl = true → cap = n) (hI : r.I b) (hS : st = true → r.S b) (hsz : ∀ x ∈ xs, x.cells.length = sz) (hc : Cells r w b o (xs.flatMap AV.cells)) :
    VRel r w (.slice (some ⟨b, o, none⟩) n cap) (.sl st fl sz xs) := by
  have hall : ∀ e j, ∃ v, ∀ (he : e < xs.length) (hj : j < sz), w.cell? ⟨b, o + e * sz + j, none⟩ = some v ∧ ∀ hj' : j < (AV.cells (xs[e]'he)).length, VRel r w v ((AV.cells (xs[e]'he))[j]'hj') := by
    intro e j
    by_cases h : e < xs.length ∧ j < sz
    · have hk : e * sz + j < (xs.flatMap AV.cells).length := by
        rw [flatMap_cells_length hsz]
        have : e * sz + sz ≤ xs.length * sz := by rw [← Nat.succ_mul]; exact Nat.mul_le_mul_right _ h.1
        omega
      obtain ⟨v, q1, q2⟩ := hc _ hk
      refine ⟨v, fun he hj => ⟨by rw [Nat.add_assoc]; exact q1, fun hj' => ?_⟩⟩
      have hg := flatMap_cells_get hsz e j he hj
      rw [List.getElem?_eq_getElem hk, List.getElem?_eq_getElem hj'] at hg
      simp only [Option.some.injEq] at hg
      rw [← hg]
      exact q2
    · exact ⟨undef, fun he hj => absurd ⟨he, hj⟩ h⟩
  refine .sl hn hc0 hf hI hS hsz (fun e j => (hall e j).choose) (fun e he j hj => ((hall e j).choose_spec he hj).1) (fun e he j hj => ?_)
  have hj2 : j < sz := by rw [← hsz _ (List.getElem_mem he)]; exact hj
  exact ((hall e j).choose_spec he hj2).2 hj

theorem Frz.rel {cx : Cx} {st : Bool} {r r' : Rl} {σ : Heap} {w : World} (hi : Inv cx r σ w) (hS : ∀ b, r.S b → r'.S b) (hSI : ∀ b, r'.S b → r'.I b) (hI : st = false → ∀ b, r.I b → r'.I b)
    (hL : ∀ b, Live r σ b → r'.I b ∧ (st = true → r'.S b)) {a a' : AV} (hz : Frz st σ a a') : ∀ {v : Value}, VRel r w v a → VRel r' w v a' := by
  have hFree : ∀ {v : Value} {a : AV}, VRel r w v a → Free st a → VRel r' w v a := fun h hf => h.free hf hS hSI hI
  induction hz with
  | refl h => intro v hv; exact hFree hv h
  | nils => intro v hv; cases hv; exact .sl0 (fun _ => rfl)
  | lend hst hfl hx =>
    intro v hv
    cases hv with
    | sl0 h => exact .sl0 (fun h' => h (hfl h'))
    | sl hn hc0 hf' hI' hS' hsz f hc hvv =>
      exact .sl hn hc0 (fun h => hf' (hfl h)) (hI hst _ hI') (fun h => by cases h) hsz f hc (fun e he j hj => hFree (hvv e he j hj) ((hx _ (List.getElem_mem he)).cells _ (List.getElem_mem hj)))
  | full hb hx =>
    intro v hv
    cases hv with
    | sl0 h => exact .sl0 (fun h' => by cases h')
    | sl hn hc0 hf' hI' hS' hsz f hc hvv =>
      refine .sl hn hc0 (fun h => by cases h) ?_ (fun h => hS _ (hS' h)) hsz f hc (fun e he j hj => hFree (hvv e he j hj) ((hx _ (List.getElem_mem he)).cells _ (List.getElem_mem hj)))
      cases hst : st with
      | true => exact hSI _ (hS _ (hS' (hb hst)))
      | false => exact hI hst _ hI'
  | ms hb hle hx hsz hl hf =>
    intro v hv
    cases hv with
    | ms0 =>
      have := List.eq_nil_of_length_eq_zero hl
      subst this
      exact .sl0 (fun h => by cases h)
    | ms hρ hcap hn hff =>
      have hbr := hi.cells hb rfl hρ
      have hlive : Live r σ _ := ⟨_, _, _, _, boxAt_some hb, hρ⟩
      obtain ⟨k1, k2⟩ := hL _ hlive
      rename_i o0 off0 len0 sz0 _ cs0 _ xs0 b0 o1 cap0
      have hc := (hbr.cells'.drop off0).take (len0 * sz0)
      rw [hx] at hc
      refine Cells.sl hl.symm hn (fun h => by cases h) k1 k2 hsz (fun i hi => ?_)
      obtain ⟨u, q1, q2⟩ := hc i hi
      refine ⟨u, q1, hFree q2 ?_⟩
      have hm := List.getElem_mem hi
      obtain ⟨x, hx1, hx2⟩ := List.mem_flatMap.1 hm
      exact (hf x hx1).cells _ hx2
  | agg hl h ih =>
    intro v hv
    cases hv with
    | agg hn h2 => exact .agg (by omega) (fun i hi => ih i (by omega) hi (h2 i (by omega)))
  | tup hl h ih =>
    intro v hv
    cases hv with
    | tup hn h2 => exact .tup (by omega) (fun i hi => ih i (by omega) hi (h2 i (by omega)))

/-- A function that is handed nothing to change, and hands back nothing that may turn: whatever the heap is. -/
structure Calc (cx : Cx) (f : FuncId) (args : List AV) (res : AV) : Prop where
  free : Free true res
  call : CallOk cx f args [] (fun o σ' => o = .ret res ∧ σ' = [])

theorem Inv.empty {cx : Cx} {r : Rl} {σ : Heap} {w : World} (hi : Inv cx r σ w) : Inv cx { S := r.S, I := fun b => r.I b ∨ Live r σ b, ρ := fun _ _ => none } [] w := by
  refine ⟨fun id ver x h => (by simp at h), fun id ver b o h => (by cases h), fun id id' ver ver' x x' b o o' h => (by simp at h), ?_, ?_, fun b h => .inl (hi.SI b h), ?_⟩
  · rintro b ⟨id, ver, x, o, h, _⟩; simp at h
  · intro b hb
    rcases hb with hb | ⟨id, ver, x, o, h1, h2⟩
    · exact hi.Ilt b hb
    · exact (hi.lt _ _ _ _ h2).2
  · intro g cs hg
    obtain ⟨h1, h2⟩ := hi.glob g cs hg
    exact ⟨h1, fun i hl => by
      exact h2 i hl⟩

end Go.Ab
