/-
  Deferred calls, and recover.
-/
import Derived.Test.YtjpmngjoohoddaaAbW
import Derived.Recover
set_option linter.unusedVariables false
set_option linter.unusedSimpArgs false
namespace Go.Ab
open Go

/-- How a function stands when its deferred calls run. -/
inductive Md where
  | ret
  | pan (v : AV) (rec : Bool)

def MRel (r : Rl) (w : World) : FrameMode → Md → Prop
  | .returning, .ret => True
  | .panicking chain, .pan v b => ∃ v', chain = [{ v := v', recovered := b }] ∧ VRel r w v' v
  | _, _ => False

theorem MRel.mono {r r' : Rl} {w w' : World} (g : Grow r w r' w') {U : FrameMode} {u : Md} (h : MRel r w U u) : MRel r' w' U u := by
  cases U <;> cases u <;> first | exact h | exact h.elim | skip
  obtain ⟨v', e, hv⟩ := h
  exact ⟨v', e, hv.mono g⟩

def settleA : Md → Md
  | .pan v b => match b with
    | true => .ret
    | false => .pan v false
  | .ret => .ret

theorem MRel.settle {r : Rl} {w : World} {U : FrameMode} {u : Md} (h : MRel r w U u) : MRel r w (settle U) (settleA u) := by
  cases U <;> cases u <;> first | exact h | exact h.elim | skip
  obtain ⟨v', rfl, hv⟩ := h
  rename_i v b
  cases b with
  | true => trivial
  | false => exact ⟨v', rfl, hv⟩

/-- A deferred call: what it leaves, and how the function stands behind it. -/
def DCall (cx : Cx) (d : AV) (u : Md) (σ : Heap) (R : Md → Heap → Prop) : Prop :=
  ∃ f first cap, d = .func (.func f) first cap ∧ Enters cx.P f ∧ ∀ r w U vs, Inv cx r σ w → VRels r w vs (first ++ cap) → MRel r w U u →
    CallsD cx.P f vs U w fun e U' w' => ∃ v, e = .returned v ∧ ∃ u' σ' r', R u' σ' ∧ MRel r' w' U' u' ∧ Inv cx r' σ' w' ∧ Ext r σ w r' σ' w'

/-- The function's end: its deferred calls, one by one. -/
def Lv (cx : Cx) (fn : Func) (R : Out → Heap → Prop) (fr : Fr) : List AV → Md → Heap → Prop
  | [], .ret, σ => ∃ C vs, resAll cx fr σ fn.results.toList = some (C, vs) ∧ AllP C ∧ R (.ret (tupOf vs)) σ
  | [], .pan v b, σ => b = false ∧ R (.panic v) σ
  | d :: ds, u, σ => DCall cx d u σ fun u' σ' => Lv cx fn R fr ds (settleA u') σ'

def retD (cx : Cx) (fn : Func) (n : Nat) (R : Out → Heap → Prop) : Post := fun e fr σ =>
  ∃ ds, fr.get n = .mark ds ∧ match e with
    | .normal => Lv cx fn R ((n, .top) :: fr) ds .ret σ
    | .ret => Lv cx fn R ((n, .top) :: fr) ds .ret σ
    | .panic v => Lv cx fn R ((n, .top) :: fr) ds (.pan v false) σ
    | _ => False

theorem func_args {r : Rl} {w : World} {fv : Fn} {first cap : Array Value} {f : FuncId} {as bs : List AV} (h : VRel r w (.func fv first cap) (.func (.func f) as bs)) : fv = .func f ∧ VRels r w (first ++ cap) (as ++ bs) := by
  cases h with
  | func h1 hf h2 hb =>
    refine ⟨rfl, by simp [h1, h2], fun i hi => ?_⟩
    by_cases hlt : i < as.length
    · have e1 : (first ++ cap).getD i undef = first.getD i undef := by
        simp only [Array.getD_eq_getD_getElem?]
        rw [Array.getElem?_append_left (by omega)]
      rw [e1, List.getElem_append_left hlt]
      exact hf i hlt
    · have hi' : i - as.length < bs.length := by simp at hi; omega
      have e1 : (first ++ cap).getD i undef = cap.getD (i - as.length) undef := by
        simp only [Array.getD_eq_getD_getElem?]
        rw [Array.getElem?_append_right (by omega), h1]
      rw [e1, List.getElem_append_right (by omega)]
      exact hb _ hi'

theorem leaves_of {cx : Cx} {fn : Func} {R : Out → Heap → Prop} {fr : Fr} {n : Nat} {r0 : Rl} {σ0 : Heap} {w0 : World} {tmps : Array Value} : ∀ (ds : List AV) (u : Md) (σ : Heap) (r : Rl) (w : World) (U : FrameMode) (Ds : List Deferred),
    Lv cx fn R fr ds u σ → Inv cx r σ w → FRel r w n fr { tmps, defers := [] } → DRel r w Ds ds → MRel r w U u → Ext r0 σ0 w0 r σ w →
    Leaves cx.P fn tmps (fun e w' => ∃ o σ' r', R o σ' ∧ ORel r' w' e o ∧ Inv cx r' σ' w' ∧ Ext r0 σ0 w0 r' σ' w') Ds U w
  | [], u, σ, r, w, U, Ds, h, hi, hf, hd, hm, hx => by
    obtain rfl : Ds = [] := List.eq_nil_of_length_eq_zero hd.1
    cases U <;> cases u <;> first | exact hm.elim | skip
    · obtain ⟨C, vs, h1, h2, h3⟩ := h
      obtain ⟨v', h4, h5⟩ := results_run (fn := fn) hi hf h1 h2
      exact ⟨v', h4, _, σ, r, h3, h5, hi, hx⟩
    · obtain ⟨v', rfl, hv⟩ := hm
      obtain ⟨hb, h3⟩ := h
      subst hb
      exact ⟨_, σ, r, h3, ⟨v', rfl, hv⟩, hi, hx⟩
  | d :: ds, u, σ, r, w, U, Ds, h, hi, hf, hd, hm, hx => by
    obtain ⟨D, Ds, rfl⟩ : ∃ D Ds', Ds = D :: Ds' := by
      cases Ds with
      | nil => have := hd.1; simp at this
      | cons D Ds => exact ⟨D, Ds, rfl⟩
    obtain ⟨f, first, cap, rfl, he, hcall⟩ := h
    obtain ⟨fv, capv, hT, hv⟩ := hd.2 0 (by simp) (by simp)
    simp only [List.getElem_cons_zero] at hT hv
    obtain ⟨rfl, hvs⟩ := func_args hv
    have hd' : DRel r w Ds ds := ⟨by simpa using hd.1, fun i h1 h2 => hd.2 (i + 1) (Nat.succ_lt_succ h1) (Nat.succ_lt_succ h2)⟩
    refine ⟨?_, .func f, capv, f, D.args ++ capv, hT, ?_, ?_⟩
    · cases U <;> first | (intro h; cases h) | skip
      cases u <;> exact hm.elim
    · rw [hT]; exact he _ _
    · refine CallsD.mono (hcall r w U _ hi hvs hm) fun e U' w' hq => ?_
      obtain ⟨v, rfl, u', σ', r', hR, hm', hi', hx'⟩ := hq
      have g := hx'.grow hi
      exact leaves_of ds (settleA u') σ' r' w' (settle U') Ds hR hi' (hf.mono g) (hd'.mono g) hm'.settle (hx.trans hx')

theorem callOk_introD {cx : Cx} {f : FuncId} {fn : Func} {c : Code} {n : Nat} {args : List AV} {σ : Heap} {R : Out → Heap → Prop} (he : Enters cx.P f) (hf : cx.P.funcs[f]? = some fn) (hb : fn.body = some c) (hn : fn.ntmps = n) (ha : Nat.ble args.length n = true)
    (h : ∀ B, B.df = true → S cx n B [.code c] (retD cx fn n R) ((n, .mark []) :: enterFr 0 args) σ) : CallOk cx f args σ R := by
  refine ⟨he, fun r w vs hi hv => ?_⟩
  subst hn
  refine calls_of_wp_defers hf hb ?_
  have hfr := enter_rel hv (Nat.le_of_ble_eq_true ha)
  have hwp := h ⟨r, σ, w, true⟩ rfl r _ w hi ⟨hfr.size, fun t => by
    rw [Fr.get_cons]
    split
    · exact .mark
    · exact hfr.get t, fun vs hm => by
    rw [Fr.get_cons, if_pos rfl] at hm
    cases hm
    exact ⟨rfl, fun i h => absurd h (by simp)⟩⟩ (fun h => by cases h) (Ext.refl _ _ _)
  refine wp_mono hwp fun e a w' hq => ?_
  obtain ⟨ae, fr', σ', r', hq, he, hi', hf', hd', hx'⟩ := hq
  obtain ⟨ds, hm, hq⟩ := hq
  have hD := hf'.defs ds hm
  have hfr2 : FRel r' w' fn.ntmps ((fn.ntmps, .top) :: fr') { tmps := a.tmps, defers := [] } :=
    ⟨hf'.size, fun t => by
      rw [Fr.get_cons]
      split
      · exact .top
      · exact hf'.get t, fun vs hm => by rw [Fr.get_cons, if_pos rfl] at hm; cases hm⟩
  cases e <;> cases ae <;> first | exact he.elim | skip
  · exact leaves_of ds .ret σ' r' w' .returning a.defers hq hi' hfr2 hD trivial hx'
  · exact hq.elim
  · exact hq.elim
  · exact leaves_of ds .ret σ' r' w' .returning a.defers hq hi' hfr2 hD trivial hx'
  · obtain ⟨v', rfl, hv⟩ := he
    exact leaves_of ds (.pan _ false) σ' r' w' (.panicking _) a.defers hq hi' hfr2 hD ⟨v', rfl, hv⟩ hx'

/-- What is deferred. -/
def deferA (cx : Cx) (fr : Fr) (o : Op) : Option AV :=
  match o with
  | .defer { callee := .value f, args := args, .. } => match ev cx fr f with
    | .func fn first cap => some (.func fn (first ++ args.toList.map (ev cx fr)) cap)
    | _ => none
  | _ => none

theorem deferA_run {cx : Cx} {r : Rl} {σ : Heap} {w : World} {n : Nat} {fr : Fr} {a : Act} {o : Oper} {d : AV} (hi : Inv cx r σ w) (hf : FRel r w n fr a) (h : deferA cx fr o.op = some d) :
    ∃ D fv cap, (execOp a.eval o).run cx.P w = .ok (.defer D) w ∧ D.target = .fn fv cap ∧ VRel r w (.func fv D.args cap) d := by
  have hev : ∀ x, VRel r w (a.eval x) (ev cx fr x) := fun x => ev_rel hi hf x
  obtain ⟨dst, op, ty, pos, aft, guard⟩ := o
  unfold deferA at h
  split at h
  case h_2 => cases h
  rename_i f args ts hop
  simp only at hop
  subst hop
  have hfv := hev f
  split at h
  case h_2 => cases h
  rename_i fn first cap hfn
  simp only [Option.some.injEq] at h
  subst h
  rw [hfn] at hfv
  generalize hF : a.eval f = F at hfv
  cases hfv with
  | func h1 hf' h2 hb =>
    rename_i fst cpt
    refine ⟨⟨.fn fn cpt, fst ++ args.map a.eval⟩, fn, cpt, ?_, rfl, ?_⟩
    · simp only [execOp, resolve, hF, Deferred.ofValue]
      rfl
    · refine .func (by simp [h1]) (fun i hi => ?_) h2 hb
      by_cases hlt : i < first.length
      · have e1 : (fst ++ args.map a.eval).getD i undef = fst.getD i undef := by
          simp only [Array.getD_eq_getD_getElem?]
          rw [Array.getElem?_append_left (by omega)]
        rw [e1, List.getElem_append_left hlt]
        exact hf' i hlt
      · have hi' : i - first.length < args.toList.length := by simp at hi; simp; omega
        have e1 : (fst ++ args.map a.eval).getD i undef = a.eval (args[i - first.length]'(by simpa using hi')) := by
          simp only [Array.getD_eq_getD_getElem?]
          rw [Array.getElem?_append_right (by omega), h1, Array.getElem?_map, Array.getElem?_eq_getElem (by simpa using hi')]
          rfl
        rw [e1, List.getElem_append_right (by omega), List.getElem_map]
        simpa using hev _

section
variable {cx : Cx} {n : Nat} {B : Bs} {k : List AI} {Q : Post} {fr : Fr} {σ : Heap}

theorem S_defer {all : Array Oper} {o : Oper} {l : List Oper} {K : List Nat} {d : AV} {ds : List AV} (h : deferA cx fr o.op = some d) (hg : guardA all o K fr = some true) (hd : dstOk n o.dst = true) (hm : fr.get n = .mark ds) (hB : B.df = true)
    (hk : S cx n B (.ops all l K :: k) Q ((n, .mark (d :: ds)) :: setA o.dst (.tup []) fr) σ) : S cx n B (.ops all (o :: l) K :: k) Q fr σ := by
  intro r a w hi hf hdf hx
  have hw := guardA_wanted (cx := cx) hf hg
  obtain ⟨D, fv, cap, hrun, hT, hv⟩ := deferA_run hi hf h
  unfold wpList
  rw [if_pos hw]
  refine .inl ?_
  unfold Oper.wp
  rw [hrun]
  have hf1 : FRel r w n (setA o.dst (.tup []) fr) (a.put o.dst undef) := hf.setA hd (.tup rfl (fun i h => absurd h (by simp)))
  have e : ({ a with defers := D :: a.defers } : Act).put o.dst undef = { a.put o.dst undef with defers := D :: a.defers } := by cases o.dst <;> rfl
  show wpList cx.P all _ l (({ a with defers := D :: a.defers } : Act).put o.dst undef) w
  rw [e]
  refine hk r _ w hi ⟨hf1.size, fun t => ?_, fun vs hmm => ?_⟩ (fun hdd => by rw [hB] at hdd; cases hdd) hx
  · rw [Fr.get_cons]
    split
    · exact .mark
    · exact hf1.get t
  · rw [Fr.get_cons, if_pos rfl] at hmm
    cases hmm
    have hD := hf.defs ds hm
    refine ⟨by simp [hD.1], fun i h1 h2 => ?_⟩
    cases i with
    | zero => exact ⟨fv, cap, hT, hv⟩
    | succ i => exact hD.2 i (Nat.lt_of_succ_lt_succ h1) (Nat.lt_of_succ_lt_succ h2)

end

/-- A deferred call that does not ask for the panic. -/
theorem dcall_intro {cx : Cx} {f : FuncId} {fn : Func} {c : Code} {n : Nat} {first cap : List AV} {σ : Heap} {u : Md} {R : Md → Heap → Prop} (he : Enters cx.P f) (hf : cx.P.funcs[f]? = some fn) (hb : fn.body = some c) (hn : fn.ntmps = n)
    (ha : Nat.ble (first ++ cap).length n = true) (h : ∀ B, S cx n B [.code c] (retQ cx fn fun o σ' => ∃ v, o = .ret v ∧ R u σ') (enterFr 0 (first ++ cap)) σ) : DCall cx (.func (.func f) first cap) u σ R := by
  refine ⟨f, first, cap, rfl, he, fun r w U vs hi hv hm => ?_⟩
  subst hn
  refine CallsD.mono (callsD_of_wp (R := fun e w' => ∃ v, e = .returned v ∧ ∃ σ' r', R u σ' ∧ Inv cx r' σ' w' ∧ Ext r σ w r' σ' w') hf hb ?_) ?_
  · have hwp := h ⟨r, σ, w, false⟩ r _ w hi (enter_rel hv (Nat.le_of_ble_eq_true ha)) (fun _ => rfl) (Ext.refl _ _ _)
    refine wp_mono hwp fun e a w' hq => ?_
    obtain ⟨ae, fr', σ', r', hq, he, hi', hf', hd', hx'⟩ := hq
    cases e <;> cases ae <;> first | exact he.elim | skip
    · obtain ⟨C, us, h1, h2, v, h3, h4⟩ := hq
      obtain ⟨v', h5, h6⟩ := results_run (fn := fn) hi' hf' h1 h2
      exact ⟨hd' rfl, v', h5, v', rfl, σ', r', h4, hi', hx'⟩
    · exact hq.elim
    · exact hq.elim
    · obtain ⟨C, us, h1, h2, v, h3, h4⟩ := hq
      obtain ⟨v', h5, h6⟩ := results_run (fn := fn) hi' hf' h1 h2
      exact ⟨hd' rfl, v', h5, v', rfl, σ', r', h4, hi', hx'⟩
    · obtain ⟨v, h3, h4⟩ := hq
      cases h3
  · rintro e U' w' ⟨rfl, v, rfl, σ', r', hR, hi', hx'⟩
    exact ⟨v, rfl, u, σ', r', hR, hm.mono (hx'.grow hi), hi', hx'⟩

theorem wpOpsS_of_list {P : Program} {ops : Array Oper} {Q : Exit → Act → World → Prop} (hno : ¬ LetsOut Q) {cs : List Frame} {QS : Exit → Act → List Frame → World → Prop} (hQ : ∀ e a w, Q e a w → QS e a cs w) :
    ∀ (l : List Oper) (k : Nat) (a : Act) (w : World), (∀ j, l[j]? = ops[k + j]?) → wpList P ops Q l a w → wpOpsS P ops QS (List.range' k l.length) a cs w
  | [], k, a, w, hj, h => hQ _ _ _ h
  | o :: l, k, a, w, hj, h => by
    have h0 : ops[k]? = some o := by simpa using (hj 0).symm
    have hj' : ∀ j, l[j]? = ops[k + 1 + j]? := fun j => by have := hj (j + 1); simpa [Nat.add_assoc, Nat.add_comm 1 j] using this
    simp only [List.length_cons, List.range'_succ, wpOpsS, h0]
    unfold wpList at h
    split at h
    · rename_i hw
      rw [if_pos hw]
      rcases h with h | ⟨_, h⟩
      · unfold Oper.wp at h
        have ih := fun a w => wpOpsS_of_list (P := P) hno hQ l (k + 1) a w hj'
        generalize (execOp a.eval o).run P w = rr at h ⊢
        cases rr with
        | ok nx w' =>
          cases nx with
          | recover => exact h.elim
          | value v => exact ih _ _ h
          | skip => exact ih _ _ h
          | defer d => exact ih _ _ h
          | enter f args =>
            refine Calls.mono h fun e w'' hq => ?_
            cases e with
            | returned v => exact ih _ _ hq
            | panicked ch => exact hQ _ _ _ hq
            | outgrown => exact absurd hq hno
          | row row args => exact Rows.mono h fun v w'' hq => ih _ _ hq
          | _ => exact h.elim
        | halt hh w' =>
          cases hh with
          | panic v => exact hQ _ _ _ h
          | _ => exact h.elim
      · exact absurd h hno
    · rename_i hw
      rw [if_neg hw]
      exact wpOpsS_of_list hno hQ l (k + 1) _ _ hj' h

theorem Lift.noOut {cx : Cx} {n : Nat} {B : Bs} {Q : Post} : ¬ LetsOut (Lift cx n B Q) := by
  rintro ⟨a, w, ae, fr, σ, r, _, he, _⟩
  cases ae <;> exact he

/-- What recover hands over, and how the function stands behind it. -/
def recA : Md → Option (AV × Md)
  | .ret => some (.nili, .ret)
  | .pan v b => match b with
    | false => some (v, .pan v true)
    | true => none

/-- A deferred function that begins with recover. -/
theorem dcall_recover {cx : Cx} {f : FuncId} {fn : Func} {id : Nat} {ops : Array Oper} {rest : Code} {o : Oper} {l : List Oper} {d n : Nat} {first cap : List AV} {σ : Heap} {u u1 : Md} {v : AV} {R : Md → Heap → Prop}
    (he : Enters cx.P f) (hf : cx.P.funcs[f]? = some fn) (hb : fn.body = some (.seq (.region id ops false) rest)) (hn : fn.ntmps = n)
    (ha : Nat.ble (first ++ cap).length n = true) (ho : ops.toList = o :: l) (hop : o.op = .call { callee := .builtin .recover, args := #[], argTypes := #[] }) (hg : o.guard = none) (hd : o.dst = some d) (hdn : Nat.blt d n = true) (hu : recA u = some (v, u1))
    (h : ∀ B, S cx n B [.ops ops l [], .code rest] (retQ cx fn fun o σ' => ∃ x, o = .ret x ∧ R u1 σ') ((d, v) :: enterFr 0 (first ++ cap)) σ) : DCall cx (.func (.func f) first cap) u σ R := by
  refine ⟨f, first, cap, rfl, he, fun r w U vs hi hv hm => ?_⟩
  subst hn
  refine callsD_of_wpS hf hb fun c₀ cs hc => ?_
  subst hc
  refine wpS_seq (wpS_region ?_)
  have h0 : ops[0]? = some o := by
    have : ops.toList[0]? = some o := by rw [ho]; rfl
    simpa using this
  have hsz : ops.size = l.length + 1 := by
    have := congrArg List.length ho
    simpa using this
  rw [List.range_eq_range', hsz]
  simp only [List.range'_succ, wpOpsS, h0]
  have hfr := enter_rel hv (Nat.le_of_ble_eq_true ha)
  have hrun : ∀ (ρ : Operand → Value), (execOp ρ o).run cx.P w = .ok .recover w := by
    intro ρ
    unfold execOp
    rw [hop]
    rfl
  rw [if_pos (by simp [Region.wanted, hg])]
  rw [hrun]
  simp only
  -- what is handed over
  have key : ∃ (val : Value) (cs' : List Frame) (U1 : FrameMode), VRel r w val v ∧ MRel r w U1 u1 ∧ cs' = { c₀ with mode := U1 } :: cs ∧
      (recoverD (c₀ :: cs) = some (val, cs') ∨ (recoverD (c₀ :: cs) = none ∧ val = .nilIface ∧ cs' = c₀ :: cs)) := by
    cases u with
    | ret =>
      simp only [recA, Option.some.injEq, Prod.mk.injEq] at hu
      obtain ⟨rfl, rfl⟩ := hu
      have hmode : c₀.mode = .returning := by
        cases hmm : c₀.mode <;> rw [hmm] at hm <;> first | rfl | exact hm.elim
      refine ⟨.nilIface, c₀ :: cs, .returning, .nili, trivial, ?_, .inr ⟨?_, rfl, rfl⟩⟩
      · rw [← hmode]
      · simp only [recoverD, hmode]
    | pan pv b =>
      cases b with
      | true => simp [recA] at hu
      | false =>
        simp only [recA, Option.some.injEq, Prod.mk.injEq] at hu
        obtain ⟨rfl, rfl⟩ := hu
        cases hmm : c₀.mode with
        | panicking chain =>
          rw [hmm] at hm
          obtain ⟨v', rfl, hv'⟩ := hm
          exact ⟨v', _, .panicking [{ v := v', recovered := true }], hv', ⟨v', rfl, hv'⟩, rfl, .inl (by simp only [recoverD, hmm])⟩
        | _ => rw [hmm] at hm; exact hm.elim
  obtain ⟨val, cs', U1, hval, hm1, hcs, heq⟩ := key
  have hf1 : FRel r w fn.ntmps ((d, v) :: enterFr 0 (first ++ cap)) (Act.put { tmps := vs ++ Array.replicate (fn.ntmps - vs.size) undef, defers := [] } o.dst val) := by
    rw [hd]
    exact hfr.set (blt_lt hdn) hval
  have hwp := h ⟨r, σ, w, false⟩ r _ w hi hf1 (fun _ => by rw [Act.put_defers]) (Ext.refl _ _ _)
  have fin : ∀ e a w', Lift cx fn.ntmps ⟨r, σ, w, false⟩ (retQ cx fn fun o σ' => ∃ x, o = .ret x ∧ R u1 σ') e a w' →
      bodyPostS cx.P fn c₀ cs (fun e U' w' => ∃ v, e = .returned v ∧ ∃ u' σ' r', R u' σ' ∧ MRel r' w' U' u' ∧ Inv cx r' σ' w' ∧ Ext r σ w r' σ' w') e a ({ c₀ with mode := U1 } :: cs) w' := by
    rintro e a w' ⟨ae, fr', σ', r', hq, he, hi', hf', hd', hx'⟩
    cases e <;> cases ae <;> first | exact he.elim | skip
    · obtain ⟨C, us, h1, h2, x, h3, h4⟩ := hq
      obtain ⟨v', h5, h6⟩ := results_run (fn := fn) hi' hf' h1 h2
      exact ⟨hd' rfl, U1, rfl, v', h5, v', rfl, u1, σ', r', h4, hm1.mono (hx'.grow hi), hi', hx'⟩
    · exact hq.elim
    · exact hq.elim
    · obtain ⟨C, us, h1, h2, x, h3, h4⟩ := hq
      obtain ⟨v', h5, h6⟩ := results_run (fn := fn) hi' hf' h1 h2
      exact ⟨hd' rfl, U1, rfl, v', h5, v', rfl, u1, σ', r', h4, hm1.mono (hx'.grow hi), hi', hx'⟩
    · obtain ⟨x, h3, h4⟩ := hq
      cases h3
  have goal : wpOpsS cx.P ops (Exit.thenS (rest.wpS cx.P (bodyPostS cx.P fn c₀ cs fun e U' w' => ∃ v, e = .returned v ∧ ∃ u' σ' r', R u' σ' ∧ MRel r' w' U' u' ∧ Inv cx r' σ' w' ∧ Ext r σ w r' σ' w')) (bodyPostS cx.P fn c₀ cs fun e U' w' => ∃ v, e = .returned v ∧ ∃ u' σ' r', R u' σ' ∧ MRel r' w' U' u' ∧ Inv cx r' σ' w' ∧ Ext r σ w r' σ' w')) (List.range' 1 l.length) (Act.put { tmps := vs ++ Array.replicate (fn.ntmps - vs.size) undef, defers := [] } o.dst val) ({ c₀ with mode := U1 } :: cs) w := by
    refine wpOpsS_of_list (Q := Lift cx fn.ntmps ⟨r, σ, w, false⟩ (after cx fn.ntmps ⟨r, σ, w, false⟩ [.code rest] (retQ cx fn fun o σ' => ∃ x, o = .ret x ∧ R u1 σ'))) Lift.noOut ?_ l 1 _ w ?_ hwp
    · rintro e a w' ⟨ae, fr', σ', r', hq, he, hi', hf', hd', hx'⟩
      have other : ∀ ae, after cx fn.ntmps ⟨r, σ, w, false⟩ [] (retQ cx fn fun o σ' => ∃ x, o = .ret x ∧ R u1 σ') ae = retQ cx fn (fun o σ' => ∃ x, o = .ret x ∧ R u1 σ') ae := fun _ => rfl
      cases e <;> cases ae <;> first | exact he.elim | skip
      · refine wpS_of_wp (wp_mono (hq r' a w' hi' hf' hd' hx') fun e a w hq => fin e a w hq)
      · exact fin (.exit _) _ _ ⟨.exit _, fr', σ', r', hq, he, hi', hf', hd', hx'⟩
      · exact fin (.goto _) _ _ ⟨.goto _, fr', σ', r', hq, he, hi', hf', hd', hx'⟩
      · exact fin .ret _ _ ⟨.ret, fr', σ', r', hq, he, hi', hf', hd', hx'⟩
      · exact fin (.panic _) _ _ ⟨.panic _, fr', σ', r', hq, he, hi', hf', hd', hx'⟩
    · intro j
      have : ops.toList[1 + j]? = l[j]? := by rw [ho, Nat.add_comm]; rfl
      rw [← this]; simp
  rcases heq with heq | ⟨heq, rfl, h2⟩
  · rw [heq, hcs]; exact goal
  · rw [heq, ← h2, hcs]; exact goal

/-- The letter at a place of a text, and how many bytes it has. -/
def decL (s : List UInt8) (pos : Nat) : Nat × Nat := Utf8.decode ⟨s.toArray⟩ pos

section
variable {cx : Cx} {n : Nat} {B : Bs} {k : List AI} {Q : Post} {fr : Fr} {σ : Heap}

/-- The next letter of a text. -/
theorem S_next {all : Array Oper} {o : Oper} {l : List Oper} {K : List Nat} {x : Operand} {id cur pos : Nat} {s : List UInt8} (ho : o.op = .next x true) (hx : ev cx fr x = .ptr id cur 0) (hσ : σ[id]? = some (cur, some (.siter s pos))) (hg : guardA all o K fr = some true) (hd : dstOk n o.dst = true)
    (h1 : pos < s.length → S cx n B (.ops all l K :: k) Q (setA o.dst (.tup [.bool true, .int .i64 pos, .int .i32 (decL s pos).1]) fr) (σ.set id (cur, some (.siter s (pos + (decL s pos).2)))))
    (h2 : s.length ≤ pos → S cx n B (.ops all l K :: k) Q (setA o.dst (.tup [.bool false]) fr) σ) : S cx n B (.ops all (o :: l) K :: k) Q fr σ := by
  have pre : ∀ r a w, Inv cx r σ w → FRel r w n fr a → ∃ (bs : ByteArray) (b : Nat), r.ρ id cur = some (b, 0) ∧ bs.data.toList = s ∧ w.heap[b]? = some (.stringIter bs pos) ∧ a.eval x = .pointer (some ⟨b, 0, none⟩) := by
    intro r a w hi hf
    have hv := ev_rel hi hf x
    rw [hx] at hv
    rcases hi.box id cur _ hσ with ⟨b, o', hρ, hb⟩ | ⟨_, ro, h⟩
    · obtain ⟨rfl, bs, hbs, hh⟩ := hb
      refine ⟨bs, b, hρ, hbs, hh, ?_⟩
      generalize a.eval x = z at hv
      cases hv with
      | ptr h => rw [hρ] at h; cases h; rfl
    · cases h
  have hidl : id < σ.length := by
    rcases Nat.lt_or_ge id σ.length with h | h
    · exact h
    · rw [List.getElem?_eq_none h] at hσ; cases hσ
  rcases Nat.lt_or_ge pos s.length with hp | hp
  · refine S_do hg hd (fun r a w hi hf => ?_) (h1 hp)
    obtain ⟨bs, b, hρ, hbs, hh, he⟩ := pre r a w hi hf
    have hsz : pos < bs.size := by
      have : bs.size = bs.data.toList.length := by rw [Array.length_toList]; rfl
      rw [hbs] at this
      omega
    have hbb : b < w.heap.size := by
      rcases Nat.lt_or_ge b w.heap.size with h | h
      · exact h
      · rw [Array.getElem?_eq_none h] at hh; cases hh
    have hdec : Utf8.decode bs pos = decL s pos := by
      unfold decL
      have : (⟨s.toArray⟩ : ByteArray) = bs := by
        rw [← hbs]
      rw [this]
    obtain ⟨c, wd, hcw⟩ : ∃ c wd, decL s pos = (c, wd) := ⟨_, _, rfl⟩
    have hrun : (execOp a.eval o).run cx.P w = .ok (.value (.tuple #[.bool true, .int .i64 pos, .int .i32 c])) { w with heap := w.heap.setIfInBounds b (.stringIter bs (pos + wd)) } := by
      obtain ⟨dst, op, ty, ps, aft, guard⟩ := o
      simp only at ho
      subst ho
      unfold execOp
      simp only [he]
      simp [Instr.next, getObj, setObj, Sem.run, hh, hsz, hdec, hcw, goInt]
    have hu := hi.update (σ' := σ.set id (cur, some (.siter s (pos + wd)))) (id := id) (ver := cur) (b := b) (o := 0) (x := .siter s (pos + wd)) (w' := { w with heap := w.heap.setIfInBounds b (.stringIter bs (pos + wd)) })
      (by simp [hidl]) (fun j hj => by rw [List.getElem?_set, if_neg (Ne.symm hj)]) (fun c2 y hy => by rw [hσ] at hy; cases hy; exact .inr ⟨rfl, hρ⟩) (.inr ⟨cur, _, 0, hσ, hρ⟩)
      (fun k hk hkb => by simp [Array.getElem?_setIfInBounds, Ne.symm hkb]) (by simp) (fun c2 t2 f2 hc2 => by rw [hh] at hc2; cases hc2) rfl rfl rfl
      (fun g => ⟨rfl, bs, hbs, by simp [Array.getElem?_setIfInBounds, hbb]⟩)
    obtain ⟨hi', hx'⟩ := hu
    rw [hcw]
    refine ⟨_, _, _, .inl hrun, .tup rfl (fun i h => ?_), hi', hx'⟩
    simp only [List.length_cons, List.length_nil] at h
    rcases i with _ | _ | _ | i
    · exact .bool
    · exact .int
    · exact .int
    · omega
  · refine S_do hg hd (fun r a w hi hf => ?_) (h2 hp)
    obtain ⟨bs, b, hρ, hbs, hh, he⟩ := pre r a w hi hf
    have hsz : ¬ pos < bs.size := by
      have : bs.size = bs.data.toList.length := by rw [Array.length_toList]; rfl
      rw [hbs] at this
      omega
    refine ⟨r, w, .tuple #[.bool false], .inl ?_, .tup rfl (fun i h => ?_), hi, .refl _ _ _⟩
    · obtain ⟨dst, op, ty, ps, aft, guard⟩ := o
      simp only at ho
      subst ho
      unfold execOp
      simp only [he]
      simp [Instr.next, getObj, Sem.run, hh, hsz]
    · obtain rfl : i = 0 := by simpa using h
      exact .bool
end

theorem get_mk (s : List UInt8) (i : Nat) (h : i < s.length) : ((⟨s.toArray⟩ : ByteArray).get! i) = s[i] := by
  show s.toArray[i]! = _
  simp [h]

theorem decL_lt {s : List UInt8} {i : Nat} (h : i < s.length) (hc : s[i].toNat < 128) : decL s i = (s[i].toNat, 1) := by
  unfold decL Utf8.decode
  simp only [Nat.add_zero, get_mk s i h]
  rw [if_pos hc]

theorem decL_ge {s : List UInt8} {i : Nat} (h : i < s.length) (hc : 128 ≤ s[i].toNat) : 128 ≤ (decL s i).1 := by
  unfold decL Utf8.decode
  simp only [Nat.add_zero, get_mk s i h]
  rw [if_neg (by omega)]
  split
  · split <;> simp [Utf8.runeError] <;> omega
  · split
    · split
      · rename_i h3
        simp only [Bool.and_eq_true, decide_eq_true_eq] at h3
        simp only; omega
      · simp [Utf8.runeError]
    · split
      · split
        · rename_i h3
          simp only [Bool.and_eq_true, decide_eq_true_eq] at h3
          simp only; omega
        · simp [Utf8.runeError]
      · simp [Utf8.runeError]

theorem wpList_app {P : Program} {all : Array Oper} {Q Q1 : Exit → Act → World → Prop} {l2 : List Oper} (hn : ∀ a w, Q1 .normal a w → wpList P all Q l2 a w) (ho : ∀ e a w, e ≠ .normal → Q1 e a w → Q e a w) :
    ∀ (l1 : List Oper) (a : Act) (w : World), wpList P all Q1 l1 a w → wpList P all Q (l1 ++ l2) a w
  | [], a, w, h => hn a w h
  | o :: l1, a, w, h => by
    rw [List.cons_append]
    unfold wpList at h ⊢
    have hlet : LetsOut Q1 → LetsOut Q := fun ⟨a, w, h⟩ => ⟨a, w, ho .outgrown a w (by intro h; cases h) h⟩
    split at h
    · rename_i hw
      rw [if_pos hw]
      rcases h with h | ⟨h1, h2⟩
      · refine .inl ?_
        unfold Oper.wp at h ⊢
        have ih := fun a w => wpList_app (P := P) hn ho l1 a w
        generalize (execOp a.eval o).run P w = rr at h ⊢
        cases rr with
        | ok nx w' =>
          cases nx with
          | recover => exact h.elim
          | value v => exact ih _ _ h
          | skip => exact ih _ _ h
          | defer d => exact ih _ _ h
          | enter f args =>
            refine Calls.mono h fun e w'' hq => ?_
            cases e with
            | returned v => exact ih _ _ hq
            | panicked ch => exact ho _ _ _ (by intro h; cases h) hq
            | outgrown => exact hlet hq
          | row row args => exact Rows.mono h fun v w'' hq => ih _ _ hq
          | _ => exact h.elim
        | halt hh w' =>
          cases hh with
          | panic v => exact ho _ _ _ (by intro h; cases h) h
          | _ => exact h.elim
      · exact .inr ⟨h1, hlet h2⟩
    · rename_i hw
      rw [if_neg hw]
      exact wpList_app hn ho l1 _ _ h

section
variable {cx : Cx} {n : Nat} {B : Bs} {k : List AI} {Q : Post} {fr : Fr} {σ : Heap}

/-- Some operations, then what holds behind them, however one came there; then the others. -/
theorem S_split {all : Array Oper} {l : List Oper} {K : List Nat} (m : Nat) (M : Fr → Heap → Prop) (h1 : S cx n B (.ops all (l.take m) K :: .inv M :: k) Q fr σ) (h2 : ∀ fr σ, M fr σ → S cx n B (.ops all (l.drop m) [] :: k) Q fr σ) :
    S cx n B (.ops all l K :: k) Q fr σ := by
  intro r a w hi hf hd hx
  have h := h1 r a w hi hf hd hx
  rw [← List.take_append_drop m l]
  refine wpList_app (fun a w hq => ?_) (fun e a w he hq => ?_) (l.take m) a w h
  · obtain ⟨ae, fr', σ', r', hq, he, hi', hf', hd', hx'⟩ := hq
    cases ae <;> first | exact he.elim | skip
    exact h2 fr' σ' hq r' a w hi' hf' hd' hx'
  · obtain ⟨ae, fr', σ', r', hq, he', hi', hf', hd', hx'⟩ := hq
    refine ⟨ae, fr', σ', r', ?_, he', hi', hf', hd', hx'⟩
    cases ae <;> first | exact hq | (cases e <;> first | exact absurd rfl he | exact he'.elim)

/-- A piece of code, then what holds behind it, however one came there. -/
theorem S_join {c : Code} (M : Fr → Heap → Prop) (h1 : S cx n B (.code c :: .inv M :: k) Q fr σ) (h2 : ∀ fr σ, M fr σ → S cx n B k Q fr σ) : S cx n B (.code c :: k) Q fr σ := by
  intro r a w hi hf hd hx
  refine wp_mono (h1 r a w hi hf hd hx) fun e a w hq => ?_
  obtain ⟨ae, fr', σ', r', hq, he', hi', hf', hd', hx'⟩ := hq
  refine ⟨ae, fr', σ', r', ?_, he', hi', hf', hd', hx'⟩
  cases ae with
  | normal => exact h2 fr' σ' hq
  | _ => exact hq

theorem S_opsW {all : Array Oper} {l : List Oper} {K : List Nat} {fr' : Fr} (hw : Weak fr fr') (h : S cx n B (.ops all l K :: k) Q fr' σ) : S cx n B (.ops all l K :: k) Q fr σ := S_ops_weak hw h
end

section
variable {cx : Cx} {n : Nat} {B : Bs} {k : List AI} {Q : Post} {fr : Fr} {σ : Heap}
theorem VRel.unfull {r : Rl} {w : World} {v : Value} {id ver off len sz : Nat} {f : Bool} (h : VRel r w v (.ms id ver off len sz f)) : VRel r w v (.ms id ver off len sz false) := by
  cases h with
  | ms0 => exact .ms0
  | ms h1 h2 h3 h4 => exact .ms h1 h2 h3 (fun h => by cases h)

/-- A slice of which one no longer says that it has no room. -/
theorem S_unfull {todo : List AI} {t id ver off len sz : Nat} {f : Bool} (h : fr.get t = .ms id ver off len sz f) (hT : ∃ c k, todo = .code c :: k ∨ ∃ all l K, todo = .ops all l K :: k)
    (hk : S cx n B todo Q ((t, .ms id ver off len sz false) :: fr) σ) : S cx n B todo Q fr σ := by
  have key : ∀ r w a, FRel r w n fr a → FRel r w n ((t, .ms id ver off len sz false) :: fr) a := by
    intro r w a hf
    refine ⟨hf.size, fun s => ?_, fun vs hm => ?_⟩
    · rw [Fr.get_cons]
      split
      · rename_i hs
        subst hs
        have := hf.get t
        rw [h] at this
        exact this.unfull
      · exact hf.get s
    · rw [Fr.get_cons] at hm
      split at hm
      · cases hm
      · exact hf.defs vs hm
  obtain ⟨c, k, hT⟩ := hT
  rcases hT with rfl | ⟨all, l, K, rfl⟩
  · intro r a w hi hf hd hx
    exact hk r a w hi (key r w a hf) hd hx
  · intro r a w hi hf hd hx
    exact hk r a w hi (key r w a hf) hd hx
end

theorem Inv.dead {cx : Cx} {r : Rl} {σ : Heap} {w : World} (hi : Inv cx r σ w) : Inv cx r (σ ++ [(0, none)]) w ∧ Ext r σ w r (σ ++ [(0, none)]) w := by
  have hget : ∀ (id ver : Nat) x, (σ ++ [((0 : Nat), (none : Option Box))])[id]? = some (ver, some x) → σ[id]? = some (ver, some x) := by
    intro id ver x h
    rcases Nat.lt_or_ge id σ.length with hl | hl
    · rwa [List.getElem?_append_left hl] at h
    · rw [List.getElem?_append_right hl] at h
      cases hk : id - σ.length with
      | zero => rw [hk] at h; cases h
      | succ k => rw [hk] at h; cases h
  have hliv : ∀ b, Live r (σ ++ [(0, none)]) b → Live r σ b := by
    rintro b ⟨id, ver, x, o, h1, h2⟩
    exact ⟨id, ver, x, o, hget _ _ _ h1, h2⟩
  refine ⟨⟨fun id ver x h => hi.box id ver x (hget _ _ _ h), fun id ver b o h => ?_, fun id id' ver ver' x x' b o o' h1 h2 => hi.inj id id' ver ver' x x' b o o' (hget _ _ _ h1) (hget _ _ _ h2), fun b h => hi.imm b (hliv b h), hi.Ilt, hi.SI, hi.glob⟩, ?_⟩
  · obtain ⟨⟨cur, x, h1, h2⟩, h3⟩ := hi.lt id ver b o h
    have hl : id < σ.length := by
      rcases Nat.lt_or_ge id σ.length with hl | hl
      · exact hl
      · rw [List.getElem?_eq_none hl] at h1; cases h1
    exact ⟨⟨cur, x, by rw [List.getElem?_append_left hl]; exact h1, h2⟩, h3⟩
  · have e := Ext.refl r σ w
    exact ⟨e.S, e.I, e.Sf, e.If, e.ρ, e.hs, by simp, e.same, fun b h => .inl (hliv b h), e.size, e.os, e.output, e.tape⟩

section
variable {cx : Cx} {n : Nat} {B : Bs} {k : List AI} {Q : Post} {fr : Fr} {σ : Heap}
/-- A free place more. -/
theorem S_dead {todo : List AI} (hk : S cx n B todo Q fr (σ ++ [(0, none)])) (hT : ∃ c k, todo = .code c :: k ∨ ∃ all l K, todo = .ops all l K :: k) : S cx n B todo Q fr σ := by
  obtain ⟨c, k, hT⟩ := hT
  rcases hT with rfl | ⟨all, l, K, rfl⟩
  · intro r a w hi hf hd hx
    obtain ⟨q1, q2⟩ := hi.dead
    exact hk r a w q1 hf hd (hx.trans q2)
  · intro r a w hi hf hd hx
    obtain ⟨q1, q2⟩ := hi.dead
    exact hk r a w q1 hf hd (hx.trans q2)
end

theorem S_heap {cx : Cx} {n : Nat} {B : Bs} {todo : List AI} {Q : Post} {fr : Fr} {σ : Heap} (σ' : Heap) (h : σ = σ') (hk : S cx n B todo Q fr σ') : S cx n B todo Q fr σ := h ▸ hk

theorem S_weakO {cx : Cx} {n : Nat} {B : Bs} {all : Array Oper} {l : List Oper} {K : List Nat} {k : List AI} {Q : Post} {fr : Fr} {σ : Heap} (fr' : Fr) (hw : Weak fr fr') (h : S cx n B (.ops all l [] :: k) Q fr' σ) : S cx n B (.ops all l K :: k) Q fr σ :=
  S_ops_weak hw h

theorem bytes_of (bs : List UInt8) : (bs.map byteAV).map byteOf = bs := by
  induction bs with
  | nil => rfl
  | cons b r ih =>
    rw [List.map_cons, List.map_cons, ih]
    congr 1
    show UInt8.ofNat (b.toNat : Int).toNat = b
    rw [Int.toNat_natCast]; simp

theorem bytes_isByte (bs : List UInt8) : ∀ x ∈ bs.map byteAV, isByte x := by
  intro x hx
  obtain ⟨y, _, rfl⟩ := List.mem_map.1 hx
  trivial

/-- An element of an array that is a value. -/
def elemA (cx : Cx) (fr : Fr) (o : Op) (x : AV) : Option (List Prop) :=
  match o with
  | .index t y i => match cx.P.underlying t, ev cx fr y, ev cx fr i with
    | some (.array len e), .agg cs, .int _ j => match szOf cx.P e, aggT cx.P e with
      | some n, some true => some [0 ≤ j, j < len, n ≤ (cs.drop (j.toNat * n)).length, x = .agg ((cs.drop (j.toNat * n)).take n)]
      | some n, some false => some [0 ≤ j, j < len, n = 1, cs[j.toNat]? = some x]
      | _, _ => none
    | _, _, _ => none
  | _ => none

section
variable {cx : Cx} {n : Nat} {B : Bs} {k : List AI} {Q : Post} {fr : Fr} {σ : Heap}
theorem S_elem {all : Array Oper} {o : Oper} {l : List Oper} {K : List Nat} {C : List Prop} (x : AV) (h : elemA cx fr o.op x = some C) (hg : guardA all o K fr = some true) (hd : dstOk n o.dst = true) (hC : AllP C)
    (hk : S cx n B (.ops all l K :: k) Q (setA o.dst x fr) σ) : S cx n B (.ops all (o :: l) K :: k) Q fr σ := by
  refine S_do hg hd (fun r a w hi hf => ?_) hk
  have he : ∀ x, VRel r w (a.eval x) (ev cx fr x) := fun x => ev_rel hi hf x
  obtain ⟨dst, op, ty, pos, aft, guard⟩ := o
  simp only at h
  unfold elemA at h
  split at h
  case h_2 => cases h
  rename_i t y i
  have hy := he y
  have hi' := he i
  split at h
  case h_2 => cases h
  rename_i len e cs kk j hu hy1 hi1
  rw [hy1] at hy; rw [hi1] at hi'
  have hya : ∃ ys, a.eval y = .agg ys := by generalize a.eval y = z at hy; cases hy; exact ⟨_, rfl⟩
  obtain ⟨ys, hys⟩ := hya
  rw [hys] at hy
  have hie : a.eval i = .int kk j := by generalize a.eval i = z at hi'; cases hi'; rfl
  have main : ∀ m, szOf cx.P e = some m → 0 ≤ j → j < len → aLoad cx.P e (cs.drop (j.toNat * m)) = some x → OpRes cx r σ w ((execOp a.eval ⟨dst, .index t y i, ty, pos, aft, guard⟩).run cx.P w) x σ := by
    intro m hm h0 h1 hl
    obtain ⟨v', k1, k2⟩ := part_run hy hl
    refine ⟨r, w, v', .inl (exec_v ?_), k2, hi, .refl _ _ _⟩
    simp only [hys, hie, Instr.index, asIntOf, Sem.run_bind, Sem.run_pure, Result.andThen_ok, run_underlying hu, h0, h1, and_self, if_true, run_sizeOf' hm, k1]
  split at h
  · rename_i m hm hag
    simp only [Option.some.injEq] at h; subst h
    obtain ⟨h0, h1, h2, h3, _⟩ := hC
    refine main m hm h0 h1 ?_
    simp only [aLoad, hag, hm]
    rw [show Nat.ble m (cs.drop (j.toNat * m)).length = true by (rw [Nat.ble_eq]; exact h2), h3]; rfl
  · rename_i m hm hag
    simp only [Option.some.injEq] at h; subst h
    obtain ⟨h0, h1, h2, h3, _⟩ := hC
    refine main m hm h0 h1 ?_
    subst h2
    simp only [aLoad, hag, Nat.mul_one]
    cases hd : cs.drop j.toNat with
    | nil =>
      have : (cs.drop j.toNat)[0]? = some x := by rw [List.getElem?_drop, Nat.add_zero]; exact h3
      rw [hd] at this; cases this
    | cons z zs =>
      have : (cs.drop j.toNat)[0]? = some x := by rw [List.getElem?_drop, Nat.add_zero]; exact h3
      rw [hd] at this
      simpa using this
  · cases h
end

end Go.Ab
