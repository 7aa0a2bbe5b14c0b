/-
  Texts of our own, in one file.
-/
import Derived.Test.YtonjhfeabphaaaaGreatDoorGrpB
import Derived.Lib.Bytealg
import Derived.Scope
import Derived.Lib.IndexEntry
set_option linter.unusedVariables false
set_option linter.unusedSimpArgs false
set_option maxRecDepth 20000
section
namespace Go.Ab
open Go
section
def StepX (cx : Cx) (n : Nat) (all : Array Oper) (σ σ' : Heap) (K : List Nat) (fr : Fr) (o : Oper) (v : AV) : Prop :=
 dstOk n o.dst = true ∧ ((guardA all o K fr = some false ∧ v = .tup [] ∧ σ' = σ) ∨ (guardA all o K fr = some true ∧ ∀ r a w,Inv cx r σ w → FRel r w n fr a → ∀ Q,o.wp cx.P a w (fun a' w' => ∃ r' v',a' = a.put o.dst v' ∧ VRel r' w' v' v ∧ Inv cx r' σ' w' ∧ Ext r σ w r' σ' w') Q))
theorem StepD.x {cx : Cx} {n : Nat} {all : Array Oper} {σ : Heap} {K : List Nat} {fr : Fr} {o : Oper} {v : AV} (h : StepD cx n all σ K fr o v) : StepX cx n all σ σ K fr o v:=by
 refine ⟨h.1,?_⟩
 rcases h.2 with ⟨h1,h2⟩ | h1
 ·exact .inl ⟨h1,h2,rfl⟩
 ·exact .inr h1
def hpC (σ σ' : Heap) (jc : Nat) (listed : Array Bool) : Heap:=bif listed.getD jc false then σ' else σ
theorem hpC_in {σ σ' : Heap} {jc : Nat} {listed : Array Bool} (h : Listed listed jc) : hpC σ σ' jc listed = σ':=by
 have h : listed.getD jc false = true:=h
 unfold hpC; rw [h]; rfl
theorem hpC_out {σ σ' : Heap} {jc : Nat} {listed : Array Bool} (h : listed.getD jc false = false) : hpC σ σ' jc listed = σ:=by
 unfold hpC; rw [h]; rfl
theorem hpC_set {σ σ' : Heap} {i : Nat} {listed : Array Bool} (h : i < listed.size) : hpC σ σ' i (listed.setIfInBounds i true) = σ' :=
 hpC_in ((listed_set h).2 (.inl rfl))
theorem hpC_same {σ σ' : Heap} {i jc : Nat} {listed : Array Bool} (h : i < listed.size) (hn : i ≠ jc) : hpC σ σ' jc (listed.setIfInBounds i true) = hpC σ σ' jc listed:=by
 unfold hpC
 have : (listed.setIfInBounds i true).getD jc false = listed.getD jc false:=by
  simp only [Array.getD_eq_getD_getElem?,Array.getElem?_setIfInBounds,if_neg hn]
 rw [this]
section
variable {cx : Cx} {n : Nat} {B : Bs} {k : List AI} {Q : Post} {fr : Fr} {σ : Heap}
theorem wpAny_frontC {σ' : Heap} {jc : Nat} {ops : Array Oper} {m : Nat} {vals : List AV} {K : List Nat} {Q' : Exit → Act → World → Prop} (hjc : jc < m) (hmN : m ≤ ops.size) (hlen : vals.length = m)
  (hread : ∀ j o t,j < m → ops.toList[j]? = some o → t ∈ slotsOf ops.toList o → readOk ops.toList m j t = true)
  (huniq : ∀ i j d,i < m → j < m → dstOf ops.toList i = some d → dstOf ops.toList j = some d → i = j)
  (hch : ∀ j,m < j → j < ops.size → edge ops.toList j (j - 1) = true) (hlo : ∀ j i,edge ops.toList j i = true → i < j)
  (hcl : m < ops.size → ∀ i,i < m → ∃ k,i < k ∧ k ≤ m ∧ edge ops.toList k i = true)
  (hstep : ∀ (j : Nat) o v,j < m → ops.toList[j]? = some o → vals[j]? = some v → (j ≠ jc → ∀ b : Bool,StepX cx n ops (bif b then σ' else σ) (bif b then σ' else σ) K (restr ops.toList o (ovl (ops.toList.take j) (vals.take j) fr)) o v) ∧ (j = jc → StepX cx n ops σ σ' K (restr ops.toList o (ovl (ops.toList.take j) (vals.take j) fr)) o v))
  (hend : ∀ r a w,Inv cx r σ' w → FRel r w n (ovl (ops.toList.take m) vals fr) a → Dfs B a → Ext B.r B.σ B.w r σ' w → wpList cx.P ops Q' (ops.toList.drop m) a w) :
  ∀ (f : Nat) (listed : Array Bool) (r : Rl) (a : Act) (w : World),listed.size = ops.size → unl listed = f → Down ops.toList listed → (∀ j,m ≤ j → ¬ Listed listed j) →
   FL r w n fr ops.toList m vals listed a → Inv cx r (hpC σ σ' jc listed) w → Dfs B a → Ext B.r B.σ B.w r (hpC σ σ' jc listed) w → wpAny cx.P .any ops Q' f listed a w:=by
 have ovlN : ∀ i,i ≤ m → ∀ vs,(ovl (ops.toList.take i) (vals.take i) fr).get n = .mark vs → fr.get n = .mark vs:=by
  intro i him vs hm
  rcases ovl_get (ops.toList.take i) (vals.take i) fr n (by simp [hlen]; omega) with ⟨i',o',v',k1,k2,k3,k4⟩ | ⟨k1,k2⟩
  ·exfalso
   have hi'i : i' < i:=by
    rcases Nat.lt_or_ge i' i with h' | h'
    ·exact h'
    ·rw [List.getElem?_eq_none (by simp; omega)] at k1; cases k1
   rw [List.getElem?_take_of_lt hi'i] at k1 k3
   have hds : dstOk n o'.dst = true:=by
    by_cases hij : i' = jc
    ·exact ((hstep i' o' v' (by omega) k1 k3).2 hij).1
    ·exact ((hstep i' o' v' (by omega) k1 k3).1 hij false).1
   rw [k2] at hds
   have:=blt_lt hds
   omega
  ·rw [← k2]; exact hm
 have fin : ∀ (f : Nat) (listed : Array Bool) (r : Rl) (a : Act) (w : World),listed.size = ops.size → unl listed = f → (∀ j,j < m → Listed listed j) → (∀ j,m ≤ j → ¬ Listed listed j) →
   FL r w n fr ops.toList m vals listed a → Inv cx r (hpC σ σ' jc listed) w → Dfs B a → Ext B.r B.σ B.w r (hpC σ σ' jc listed) w → wpAny cx.P .any ops Q' f listed a w:=by
  intro f listed r a w hs hf hall hno hfl hi hd hx
  rw [hpC_in (hall jc hjc)] at hi hx
  have hcount : unl listed + m = ops.size:=by
   have hl : listed.toList = List.replicate m true ++ List.replicate (ops.size - m) false:=by
    apply List.ext_getElem
    ·simp; omega
    ·intro j h1 h2
     have hj : j < listed.size:=by simpa using h1
     have h3 : listed.getD j false = listed.toList[j]:=by simp [Array.getD_eq_getD_getElem?,hj]
     by_cases hjm : j < m
     ·rw [List.getElem_append_left (by simpa using hjm),List.getElem_replicate,← h3]; exact hall j hjm
     ·rw [List.getElem_append_right (by simp; omega),List.getElem_replicate,← h3]
      have:=hno j (by omega)
      unfold Listed at this
      simpa using this
   unfold unl
   rw [hl,List.countP_append,List.countP_replicate,List.countP_replicate]
   simp; omega
  refine wpAny_tail hch hlo f m listed a w (by omega) (Nat.le_refl m) hs (fun i hi' => ⟨fun h => ?_,fun h => hall i h⟩) (hend r a w hi ⟨hfl.size,fun t => ?_,fun vs hm => ?_⟩ hd hx)
  case refine_3 =>
   refine hfl.defs vs (ovlN m (Nat.le_refl _) vs ?_)
   rw [show vals.take m = vals from List.take_of_length_le (by omega)]
   exact hm
  ·rcases Nat.lt_or_ge i m with h' | h'
   ·exact h'
   ·exact absurd h (hno i h')
  ·rcases ovl_get (ops.toList.take m) vals fr t (by simp [hlen]; omega) with ⟨i,o,v,h1,h2,h3,h4⟩ | ⟨h1,h2⟩
   ·rw [h4]
    have him : i < m:=by
     rcases Nat.lt_or_ge i m with h' | h'
     ·exact h'
     ·rw [List.getElem?_eq_none (by simp; omega)] at h1; cases h1
    rw [List.getElem?_take_of_lt him] at h1
    exact hfl.done i t v him (hall i him) (by simp [dstOf,h1,h2]) h3
   ·rw [h2]
    refine hfl.rest t (fun j hj _ hdj => ?_)
    obtain ⟨o,ho,hod⟩:=Option.bind_eq_some_iff.1 hdj
    exact h1 j o (by rw [List.getElem?_take_of_lt hj]; exact ho) hod
 intro f
 induction f with
 | zero =>
  intro listed r a w hs hf hdn hno hfl hi hd hx
  refine fin 0 listed r a w hs hf (fun j hj => ?_) hno hfl hi hd hx
  rcases hb : listed.getD j false with _ | _
  ·have:=unl_set (by omega) hb
   omega
  ·exact hb
 | succ f ih =>
  intro listed r a w hs hf hdn hno hfl hi hd hx
  by_cases hall : ∀ j,j < m → Listed listed j
  ·exact fin (f + 1) listed r a w hs hf hall hno hfl hi hd hx
  have hex : ∃ j,j < m ∧ ¬ Listed listed j:=by
   apply Classical.byContradiction
   intro h
   exact hall (fun j hj => Classical.byContradiction fun hl => h ⟨j,hj,hl⟩)
  refine ⟨fun h0 => ?_,fun i hir => ?_⟩
  ·obtain ⟨j,h1,h2,h3⟩:=exists_least m hex
   have hjr : j ∈ Region.ready .any ops listed:=by
    refine mem_ready.2 ⟨?_,ops[j]'(by omega),Array.getElem?_eq_getElem _,fun e he hb => ?_⟩
    ·rw [listed_true (by omega)]; simpa [Listed] using h2
    ·have h4 : e.on < j:=hlo j e.on (edge_iff.2 ⟨ops[j]'(by omega),Array.getElem?_eq_getElem _,e,he,hb,rfl⟩)
     exact Classical.byContradiction fun h5 => h3 e.on h4 h5
   rw [h0] at hjr; cases hjr
  ·obtain ⟨h0,o,ho,hedges⟩:=mem_ready.1 hir
   have hilt:=(Array.getElem?_eq_some_iff.1 ho).1
   rw [listed_true (by omega)] at h0
   have hed : ∀ j,edge ops.toList i j = true → Listed listed j:=by
    intro j hj
    obtain ⟨o',ho',e,he,hb,hon⟩:=edge_iff.1 hj
    rw [ho] at ho'; cases ho'
    rw [← hon]; exact hedges e he hb
   have him : i < m:=by
    rcases Nat.lt_or_ge i m with h' | h'
    ·exact h'
    ·exfalso
     rcases Nat.eq_or_lt_of_le h' with h'' | h''
     ·subst h''
      refine hall (fun j hj => ?_)
      have key : ∀ d j,d + j = m → j < m → Listed listed j:=by
       intro d
       induction d using Nat.strongRecOn with
       | _ d ihd =>
        intro j hdj hj
        obtain ⟨k,h1,h2,h3⟩:=hcl hilt j hj
        rcases Nat.eq_or_lt_of_le h2 with h4 | h4
        ·subst h4; exact hed j h3
        ·exact hdn k j (ihd (m - k) (by omega) k (by omega) h4) h3
      exact key (m - j) j (by omega) hj
     ·exact hno (i - 1) (by omega) (hed _ (hch i h'' hilt))
   have hol : ops.toList[i]? = some o:=by simpa using ho
   obtain ⟨v,hv⟩ : ∃ v,vals[i]? = some v:=⟨vals[i]'(by omega),List.getElem?_eq_getElem _⟩
   have hX : StepX cx n ops (hpC σ σ' jc listed) (hpC σ σ' jc (listed.setIfInBounds i true)) K (restr ops.toList o (ovl (ops.toList.take i) (vals.take i) fr)) o v:=by
    by_cases hij : i = jc
    ·subst hij
     rw [hpC_out h0,hpC_set (by omega)]
     exact (hstep i o v him hol hv).2 rfl
    ·rw [hpC_same (by omega) hij]
     exact (hstep i o v him hol hv).1 hij (listed.getD jc false)
   obtain ⟨hdst,hst⟩:=hX
   have hnl : ¬ Listed listed i:=by simp [Listed,h0]
   have hfr : FRel r w n (restr ops.toList o (ovl (ops.toList.take i) (vals.take i) fr)) a:=by
    refine ⟨hfl.size,fun t => ?_,fun vs hm => ?_⟩
    case refine_2 =>
     unfold restr at hm
     rcases restr_get (slotsOf ops.toList o) (ovl (ops.toList.take i) (vals.take i) fr) n with h | ⟨h1,h2⟩
     ·rw [h] at hm; cases hm
     ·rw [h2] at hm
      exact hfl.defs vs (ovlN i (by omega) vs hm)
    unfold restr
    rcases restr_get (slotsOf ops.toList o) (ovl (ops.toList.take i) (vals.take i) fr) t with h | ⟨h1,h2⟩
    ·rw [h]; exact .top
    ·rw [h2]
     have hro:=hread i o t him hol h1
     have hrd : ∀ i',i' < m → dstOf ops.toList i' = some t → (i' < i → edge ops.toList i i' = true) ∧ (i < i' → edge ops.toList i' i = true):=by
      intro i' hi' hd'
      have:=allB_mem hro _ (List.mem_map.2 ⟨i',List.mem_range.2 hi',rfl⟩)
      rw [eqDst_iff.2 hd'] at this
      simp only at this
      constructor
      ·intro hlt
       rw [lt_blt hlt] at this
       exact this
      ·intro hlt
       rw [show Nat.blt i' i = false by cases hbb : Nat.blt i' i with | false => rfl | true => (have:=blt_lt hbb; omega),show Nat.beq i' i = false by cases hbb : Nat.beq i' i with | false => rfl | true => (have:=Nat.eq_of_beq_eq_true hbb; omega)] at this
       exact this
     rcases ovl_get (ops.toList.take i) (vals.take i) fr t (by simp [hlen]; omega) with ⟨i',o',v',k1,k2,k3,k4⟩ | ⟨k1,k2⟩
     ·rw [k4]
      have hi'i : i' < i:=by
       rcases Nat.lt_or_ge i' i with h' | h'
       ·exact h'
       ·rw [List.getElem?_eq_none (by simp; omega)] at k1; cases k1
      rw [List.getElem?_take_of_lt hi'i] at k1 k3
      have hd' : dstOf ops.toList i' = some t:=by simp only [dstOf,k1,Option.bind_some,k2]
      exact hfl.done i' t v' (by omega) (hed _ ((hrd i' (by omega) hd').1 hi'i)) hd' k3
     ·rw [k2]
      refine hfl.rest t (fun j hj hlj hdj => ?_)
      rcases Nat.lt_trichotomy j i with h' | h' | h'
      ·obtain ⟨oj,hoj,hod⟩:=Option.bind_eq_some_iff.1 hdj
       exact k1 j oj (by rw [List.getElem?_take_of_lt h']; exact hoj) hod
      ·subst h'; exact hnl hlj
      ·exact hnl (hdn j i hlj ((hrd j hj hdj).2 h'))
   have next : ∀ (r' : Rl) (w' : World) (v' : Value),VRel r' w' v' v → Inv cx r' (hpC σ σ' jc (listed.setIfInBounds i true)) w' → Ext r (hpC σ σ' jc listed) w r' (hpC σ σ' jc (listed.setIfInBounds i true)) w' → wpAny cx.P .any ops Q' f (listed.setIfInBounds i true) (a.put o.dst v') w':=by
    intro r' w' v' hv' hi' hx'
    have hun:=unl_set (by omega) h0
    refine ih _ r' _ w' (by simpa using hs) (by omega) (fun j l hj he => ?_) (fun j hj hl => ?_) ⟨?_,fun j d u hj hl hdj hu => ?_,fun t ht => ?_,fun vs hm => by rw [Act.put_defers]; exact (hfl.defs vs hm).mono (hx'.grow hi)⟩ hi' (hd.put _ _) (hx.trans hx')
    ·rw [listed_set (by omega)] at hj ⊢
     rcases hj with rfl | hj
     ·exact .inr (hed l he)
     ·exact .inr (hdn j l hj he)
    ·rw [listed_set (by omega)] at hl
     rcases hl with rfl | hl
     ·omega
     ·exact hno j hj hl
    ·cases hod : o.dst <;> simp [Act.put,hfl.size]
    ·have hg:=hx'.grow hi
     rw [listed_set (by omega)] at hl
     by_cases hji : j = i
     ·subst hji
      rw [hv] at hu; cases hu
      have hod : o.dst = some d:=by simpa [dstOf,hol] using hdj
      rw [hod]
      rw [hod] at hdst
      simp only [Act.put]
      rw [getD_setIfInBounds (by rw [hfl.size]; exact blt_lt hdst),if_pos rfl]
      exact hv'
     ·have hl':=hl.resolve_left hji
      have hold:=(hfl.done j d u hj hl' hdj hu).mono hg
      cases hod : o.dst with
      | none => exact hold
      | some d' =>
       have hne : d' ≠ d:=fun e => hji (huniq j i d hj him hdj (by subst e; simp [dstOf,hol,hod]))
       rw [hod] at hdst
       simp only [Act.put]
       rw [getD_setIfInBounds (by rw [hfl.size]; exact blt_lt hdst),if_neg hne]
       exact hold
    ·have hg:=hx'.grow hi
     have hold:=(hfl.rest t (fun j hj hl => ht j hj ((listed_set (by omega)).2 (.inr hl)))).mono hg
     have hti:=ht i him ((listed_set (by omega)).2 (.inl rfl))
     cases hod : o.dst with
     | none => exact hold
     | some d' =>
      have hne : d' ≠ t:=fun e => hti (by subst e; simp [dstOf,hol,hod])
      rw [hod] at hdst
      simp only [Act.put]
      rw [getD_setIfInBounds (by rw [hfl.size]; exact blt_lt hdst),if_neg hne]
      exact hold
   unfold wpOp
   simp only [ho]
   rcases hst with ⟨hg,rfl,hσ⟩ | ⟨hg,hgo⟩
   ·rw [guardA_wanted (cx:=cx) hfr hg]
    simp only [Bool.false_eq_true,if_false]
    exact next r w undef (.tup rfl (fun i h => absurd h (by simp))) (by rw [hσ]; exact hi) (by rw [hσ]; exact Ext.refl _ _ _)
   ·rw [guardA_wanted (cx:=cx) hfr hg]
    simp only [if_true]
    refine .inl (Oper.wp_mono (fun a' w' h => ?_) (hgo r a w hi hfr Q'))
    obtain ⟨r',v',rfl,h2,h3,h4⟩:=h
    exact next r' w' v' h2 h3 h4
def runC (cx : Cx) (K : List Nat) (n : Nat) (all : Array Oper) (ops : List Oper) (σ σ' : Heap) (jc : Nat) : List Oper → Nat → Fr → List AV → Option (List Prop × List AV × Fr)
 | [],_,fr,rs => some ([],[],fr)
 | o :: r,i,fr,rs => match Nat.beq i jc with
  | true => match rs with
   | v :: rs => match dstOk n o.dst with
    | true => match guardA all o K (restr ops o fr) with
     | some true => match callA cx (restr ops o fr) o.op with
      | some (f,args) => match runC cx K n all ops σ σ' jc r (i + 1) (setA o.dst v fr) rs with
       | some (D,vs,fr') => some ((∃ args',CallOk cx f args' σ (fun out σ1 => out = .ret v ∧ σ1 = σ') ∧ args = args') :: D,v :: vs,fr')
       | none => none
      | none => match aOp cx [] o.dst o.op (restr ops o fr) σ with
       | some (C',v',σ1) => match runC cx K n all ops σ σ' jc r (i + 1) (setA o.dst v fr) rs with
        | some (D,vs,fr') => some (C' ++ ((v' = v) :: (σ1 = σ') :: D),v :: vs,fr')
        | none => none
       | none => none
     | _ => none
    | false => none
   | [] => none
  | false => match oneD cx K n all σ o (restr ops o fr) rs with
   | some (C,v,rs') => match oneD cx K n all σ' o (restr ops o fr) rs with
    | some (C',v',_) => forceV v fun v => match runC cx K n all ops σ σ' jc r (i + 1) (setA o.dst v fr) rs' with
     | some (D,vs,fr') => some (C ++ (C' ++ ((v' = v) :: D)),v :: vs,fr')
     | none => none
    | none => none
   | none => none
theorem callC_step {σ' : Heap} {K : List Nat} {all : Array Oper} {o : Oper} {f : FuncId} {args : List AV} {v : AV} (hd : dstOk n o.dst = true) (hg : guardA all o K fr = some true) (hc : callA cx fr o.op = some (f,args))
  (h : CallOk cx f args σ (fun out σ1 => out = .ret v ∧ σ1 = σ')) : StepX cx n all σ σ' K fr o v:=by
 refine ⟨hd,.inr ⟨hg,fun r a w hi hf Q => ?_⟩⟩
 obtain ⟨vs,h1,h2⟩:=callA_run hi hf hc h.1
 unfold Oper.wp
 rw [h1,Oper.upon_enter]
 refine (h.2 r w vs hi h2).mono fun e w' ⟨out,σ1,r',⟨ho,hσ⟩,hor,hi',hx'⟩ => ?_
 subst ho; subst hσ
 cases e with
 | returned u => exact ⟨r',u,rfl,hor,hi',hx'⟩
 | panicked chain => exact hor.elim
 | outgrown => exact hor.elim
theorem opC_step {σ' : Heap} {K : List Nat} {all : Array Oper} {o : Oper} {C : List Prop} {v : AV} (hd : dstOk n o.dst = true) (hg : guardA all o K fr = some true) (ha : aOp cx [] o.dst o.op fr σ = some (C,v,σ')) (hC : AllP C) : StepX cx n all σ σ' K fr o v:=by
 refine ⟨hd,.inr ⟨hg,fun r a w hi hf Q => ?_⟩⟩
 obtain ⟨r',w',v',hrun,hv,hi',hx'⟩:=aOp_run hi hf ha hC
 unfold Oper.wp
 rcases hrun with hrun | ⟨hrun,hu⟩
 ·rw [hrun]; exact ⟨r',v',rfl,hv,hi',hx'⟩
 ·rw [hrun]; subst hu; exact ⟨r',_,rfl,hv,hi',hx'⟩
theorem runC_spec {σ' : Heap} {jc : Nat} {K : List Nat} {all : Array Oper} {ops : List Oper} : ∀ {l : List Oper} {i : Nat} {fr fr' : Fr} {rs vals : List AV} {C : List Prop},runC cx K n all ops σ σ' jc l i fr rs = some (C,vals,fr') → AllP C →
  vals.length = l.length ∧ fr' = ovl l vals fr ∧ ∀ (j : Nat) (o : Oper) (v : AV),l[j]? = some o → vals[j]? = some v →
   (i + j ≠ jc → ∀ b : Bool,StepX cx n all (bif b then σ' else σ) (bif b then σ' else σ) K (restr ops o (ovl (l.take j) (vals.take j) fr)) o v) ∧ (i + j = jc → StepX cx n all σ σ' K (restr ops o (ovl (l.take j) (vals.take j) fr)) o v)
 | [],i,fr,fr',rs,vals,C,h,hC => by
  simp only [runC,Option.some.injEq,Prod.mk.injEq] at h
  obtain ⟨rfl,rfl,rfl⟩:=h
  exact ⟨rfl,rfl,fun j o v h => by simp at h⟩
 | o :: l,i,fr,fr',rs,vals,C,h,hC => by
  simp only [runC] at h
  split at h
  ·rename_i hb
   have hij : i = jc:=Nat.eq_of_beq_eq_true hb
   split at h
   case h_2 => cases h
   rename_i v rs'
   split at h
   case h_2 => cases h
   rename_i hds
   split at h
   case h_2 => cases h
   rename_i hg
   split at h
   case h_2 =>
    split at h
    case h_2 => cases h
    rename_i C' v' σ1 ha
    split at h
    case h_2 => cases h
    rename_i D vs fr1 h2
    simp only [Option.some.injEq,Prod.mk.injEq] at h
    obtain ⟨rfl,rfl,rfl⟩:=h
    obtain ⟨hC',hv,hσ,hD⟩:=AllP_append hC
    subst hv; subst hσ
    obtain ⟨k1,k2,k3⟩:=runC_spec h2 hD
    refine ⟨by simp [k1],by rw [k2]; rfl,fun j oj vj hj hvj => ?_⟩
    cases j with
    | zero =>
     simp only [List.getElem?_cons_zero,Option.some.injEq] at hj hvj
     subst hj; subst hvj
     exact ⟨fun h => absurd hij h,fun _ => opC_step hds hg ha hC'⟩
    | succ j =>
     simp only [List.getElem?_cons_succ] at hj hvj
     have:=k3 j oj vj hj hvj
     rw [show i + 1 + j = i + (j + 1) by omega] at this
     exact this
   rename_i f args hc
   split at h
   case h_2 => cases h
   rename_i D vs fr1 h2
   simp only [Option.some.injEq,Prod.mk.injEq] at h
   obtain ⟨rfl,rfl,rfl⟩:=h
   obtain ⟨⟨args',hcall,rfl⟩,hD⟩:=hC
   obtain ⟨k1,k2,k3⟩:=runC_spec h2 hD
   refine ⟨by simp [k1],by rw [k2]; rfl,fun j oj vj hj hvj => ?_⟩
   cases j with
   | zero =>
    simp only [List.getElem?_cons_zero,Option.some.injEq] at hj hvj
    subst hj; subst hvj
    exact ⟨fun h => absurd hij h,fun _ => callC_step hds hg hc hcall⟩
   | succ j =>
    simp only [List.getElem?_cons_succ] at hj hvj
    have:=k3 j oj vj hj hvj
    rw [show i + 1 + j = i + (j + 1) by omega] at this
    exact this
  ·rename_i hb
   have hij : i ≠ jc:=fun e => by rw [e,Nat.beq_refl] at hb; cases hb
   split at h
   case h_2 => cases h
   rename_i C1 v rs' h1
   split at h
   case h_2 => cases h
   rename_i C1' v' _ h1'
   rw [forceV_eq] at h
   split at h
   case h_2 => cases h
   rename_i D vs fr1 h2
   simp only [Option.some.injEq,Prod.mk.injEq] at h
   obtain ⟨rfl,rfl,rfl⟩:=h
   obtain ⟨hC1,hD1⟩:=AllP_append hC
   obtain ⟨hC1',hD2⟩:=AllP_append hD1
   obtain ⟨hv,hD⟩:=hD2
   subst hv
   obtain ⟨k1,k2,k3⟩:=runC_spec h2 hD
   refine ⟨by simp [k1],by rw [k2]; rfl,fun j oj vj hj hvj => ?_⟩
   cases j with
   | zero =>
    simp only [List.getElem?_cons_zero,Option.some.injEq] at hj hvj
    subst hj; subst hvj
    refine ⟨fun _ b => ?_,fun h => absurd h hij⟩
    cases b with
    | true => exact (oneD_spec h1' hC1').x
    | false => exact (oneD_spec h1 hC1).x
   | succ j =>
    simp only [List.getElem?_cons_succ] at hj hvj
    have:=k3 j oj vj hj hvj
    rw [show i + 1 + j = i + (j + 1) by omega] at this
    exact this
theorem S_drawC {id : Nat} (σ' : Heap) (jc : Nat) {ops : Array Oper} {vals : List AV} {C : List Prop} {fr' : Fr} (m : Nat) (K : List Nat) (rs : List AV) (hP : cx.P.follows .mixedOrders = true) (hchk : drawOk ops.toList m = true) (hmN : Nat.ble m ops.size = true) (hjc : Nat.blt jc m = true)
  (hrun : runC cx K n ops ops.toList σ σ' jc (ops.toList.take m) 0 fr rs = some (C,vals,fr')) (hC : AllP C)
  (hk : S cx n B (.ops ops (ops.toList.drop m) [] :: k) Q fr' σ') : S cx n B (.code (.region id ops true) :: k) Q fr σ:=by
 intro r a w hi hf hd hx
 obtain ⟨c1,c2,c3,c4,c5⟩:=drawOk_spec hchk
 obtain ⟨k1,k2,k3⟩:=runC_spec hrun hC
 have hmN':=Nat.le_of_ble_eq_true hmN
 have hlen : vals.length = m:=by rw [k1]; simp; omega
 obtain ⟨hi1,hx1⟩:=hi.heap_eq (w':={ w with drawn:=w.drawn + 1 }) rfl rfl rfl rfl
 have hf1:=hf.mono (hx1.grow hi)
 have nl : ∀ {j : Nat},¬ Listed (Array.replicate ops.size false) j:=by
  intro j hj
  unfold Listed at hj
  rw [Array.getD_eq_getD_getElem?,Array.getElem?_replicate] at hj
  split at hj <;> simp at hj
 have h0 : hpC σ σ' jc (Array.replicate ops.size false) = σ:=hpC_out (by
  cases hb : (Array.replicate ops.size false).getD jc false with
  | false => rfl
  | true => exact absurd hb nl)
 refine wp_region_any hP ?_
 refine wpAny_frontC (σ':=σ') (jc:=jc) (cx:=cx) (n:=n) (B:=B) (fr:=fr) (σ:=σ) (m:=m) (vals:=vals) (K:=K) (blt_lt hjc) hmN' hlen c1 c2 c3 c4 c5 (fun j o v hj ho hv => ?_) (fun r a w hi hf hd hx => ?_) ops.size _ r a _ (by simp) ?_ (fun j i hj => ?_) (fun j _ => ?_) ⟨hf1.size,fun j d v _ hj => ?_,fun t _ => hf1.get t,hf1.defs⟩ (by rw [h0]; exact hi1) hd (by rw [h0]; exact hx.trans hx1)
 ·have h:=k3 j o v (by rw [List.getElem?_take_of_lt hj]; exact ho) hv
  rw [List.take_take,Nat.min_eq_left (by omega),Nat.zero_add] at h
  exact h
 ·rw [k2] at hk
  exact hk r a w hi hf hd hx
 ·unfold unl; simp [List.countP_replicate]
 ·exact absurd hj nl
 ·exact nl
 ·exact absurd hj nl
def normC (x : Option (List Prop × List AV × Fr)) : Option (List Prop × List AV × Fr):=match x with
 | some (C,v,f) => forceL C fun C => some (C,v,f)
 | none => none
theorem normC_eq (x : Option (List Prop × List AV × Fr)) : normC x = x:=by
 unfold normC
 split
 ·rw [forceL_eq]
 ·rfl
theorem S_drawCN {id : Nat} (σ' : Heap) (jc : Nat) {ops : Array Oper} {vals : List AV} {C : List Prop} {fr' : Fr} (m : Nat) (K : List Nat) (rs : List AV) (hP : cx.P.follows .mixedOrders = true) (hchk : drawOk ops.toList m = true) (hmN : Nat.ble m ops.size = true) (hjc : Nat.blt jc m = true)
  (hrun : normC (runC cx K n ops ops.toList σ σ' jc (ops.toList.take m) 0 fr rs) = some (C,vals,fr')) (hC : AllP C)
  (hk : S cx n B (.ops ops (ops.toList.drop m) [] :: k) Q fr' σ') : S cx n B (.code (.region id ops true) :: k) Q fr σ :=
 S_drawC σ' jc m K rs hP hchk hmN hjc (by rw [← normC_eq (runC cx K n ops ops.toList σ σ' jc (ops.toList.take m) 0 fr rs)]; exact hrun) hC hk
end
end
section
theorem AllP_cons {p : Prop} {r : List Prop} (h : p) (hr : AllP r) : AllP (p :: r):=⟨h,hr⟩
theorem aC {p : Prop} (h : p:=by first | exact trivial | assumption | omega | rfl | exact decide_eq_true (by omega) | exact decide_eq_false (by omega) | (rw [IntWalk.i64_in _ ⟨by omega,by omega⟩]; omega) | exact allOne_mem rfl | exact Nat.le_of_ble_eq_true rfl | (simp only [List.length_cons,List.length_nil]; omega)) : p:=h
theorem fl {p : Prop} (h : p:=by (simp only [List.length_append,List.length_cons,List.length_nil,List.flatten_append,List.flatten_cons,List.flatten_nil,List.append_nil] at * <;> omega)) : p:=h
inductive Ht where
 | k (x : AV)
 | v (x : AV)
 | c (x : AV) (σ : Heap)
 | b (t : Bool)
 | f (x : AV) (g : Heap → Heap)
 | d (jc m : Nat) (K : List Nat) (g : Heap → Heap) (rs : List AV)
 | s
def stopH : List Ht → Bool
 | .s :: _ => true
 | _ => false
def chgOp : Op → Bool
 | .alloc _ => true
 | .box .. => true
 | .store .. => true
 | .makeSlice .. => true
 | .range .. => true
 | .call { callee:=.builtin b,.. } => match b with
  | .append | .copy => true
  | _ => false
 | _ => false
def isGuard (ops : List Oper) (i : Nat) : Bool:=match ops with
 | [] => false
 | o :: r => match o.guard with
  | some (j,_) => Nat.beq i j || isGuard r i
  | none => isGuard r i
def guardKs (ops : List Oper) : List Oper → List Nat
 | [] => []
 | o :: r => match o.guard with
  | some (j,_) => match dstOf ops j with
   | some d => d :: guardKs ops r
   | none => guardKs ops r
  | none => guardKs ops r
def rsOf : List Ht → List AV
 | .v r :: _ => [r]
 | _ => []
def tailIf (hs : List Ht) (rs' : List AV) : List Ht:=match rs' with
 | [] => match hs with
  | .v _ :: hs => hs
  | hs => hs
 | _ :: _ => hs
section
variable {cx : Cx} {n : Nat} {B : Bs} {k : List AI} {Q : Post} {fr : Fr} {σ : Heap}
def plainOp : Op → Bool
 | .call _ => false
 | .indexAddr .. => false
 | _ => true
def oneH (cx : Cx) (K : List Nat) (n : Nat) (all : Array Oper) (σ : Heap) (o : Oper) (fr : Fr) (hs : List Ht) : Option (List Prop × AV × List Ht) :=
 match chgOp o.op with
 | true => none
 | false => match plainOp o.op with
  | true => match dstOk n o.dst with
   | true => match guardA all o K fr with
    | some true => match aPure cx o.op fr σ with
     | some (C,v) => some (C,v,hs)
     | none => match oneD cx K n all σ o fr (rsOf hs) with
      | some (C,v,rs') => some (C,v,tailIf hs rs')
      | none => none
    | some false => some ([],.tup [],hs)
    | none => none
   | false => none
  | false => match hs with
   | .k x :: hs => match dstOk n o.dst with
    | true => match guardA all o K fr with
     | some true => match callA cx fr o.op with
      | some (f,args) => some ([CallOk cx f args σ (fun e s => e = .ret x ∧ s = σ)],x,hs)
      | none => none
     | some false => some ([],.tup [],.k x :: hs)
     | none => none
    | false => none
   | hs => match oneD cx K n all σ o fr (rsOf hs) with
    | some (C,v,rs') => some (C,v,tailIf hs rs')
    | none => none
theorem oneH_spec {K : List Nat} {all : Array Oper} {o : Oper} {fr : Fr} {hs hs' : List Ht} {C : List Prop} {v : AV} (h : oneH cx K n all σ o fr hs = some (C,v,hs')) (hC : AllP C) : StepD cx n all σ K fr o v:=by
 unfold oneH at h
 have key : ∀ {x : Option (List Prop × AV × List Ht)},(x = match oneD cx K n all σ o fr (rsOf hs) with | some (C,v,rs') => some (C,v,tailIf hs rs') | none => none) → x = some (C,v,hs') → StepD cx n all σ K fr o v:=by
  intro x hx h1
  rw [h1] at hx
  split at hx
  ·rename_i C' v' rs' hd
   simp only [Option.some.injEq,Prod.mk.injEq] at hx
   obtain ⟨rfl,rfl,rfl⟩:=hx
   exact oneD_spec hd hC
  ·cases hx
 split at h
 ·cases h
 split at h
 ·split at h
  ·rename_i hdst
   split at h
   ·rename_i hg
    split at h
    ·rename_i C' v' hp
     simp only [Option.some.injEq,Prod.mk.injEq] at h
     obtain ⟨rfl,rfl,rfl⟩:=h
     refine ⟨hdst,.inr ⟨hg,fun r a w hi hf Q => ?_⟩⟩
     obtain ⟨u,h1,h2⟩:=aPure_run hi hf hp hC
     unfold Oper.wp
     rw [h1]
     exact ⟨r,u,rfl,h2,hi,Ext.refl r σ w⟩
    ·exact key rfl h
   ·rename_i hg
    simp only [Option.some.injEq,Prod.mk.injEq] at h
    obtain ⟨rfl,rfl,rfl⟩:=h
    exact ⟨hdst,.inl ⟨hg,rfl⟩⟩
   ·cases h
  ·cases h
 ·split at h
  ·rename_i x hs1
   split at h
   ·rename_i hdst
    split at h
    ·rename_i hg
     split at h
     ·rename_i f args hc
      simp only [Option.some.injEq,Prod.mk.injEq] at h
      obtain ⟨rfl,rfl,rfl⟩:=h
      refine ⟨hdst,.inr ⟨hg,fun r a w hi hf Q => ?_⟩⟩
      obtain ⟨vs,h1,h2⟩:=callA_run hi hf hc hC.1.1
      unfold Oper.wp
      rw [h1,Oper.upon_enter]
      refine (hC.1.2 r w vs hi h2).mono fun e w' ⟨out,σ',r1,⟨ho,hσ'⟩,hor,hi1,hx1⟩ => ?_
      subst ho; subst hσ'
      cases e with
      | returned u => exact ⟨r1,u,rfl,hor,hi1,hx1⟩
      | panicked chain => exact hor.elim
      | outgrown => exact hor.elim
     ·cases h
    ·rename_i hg
     simp only [Option.some.injEq,Prod.mk.injEq] at h
     obtain ⟨rfl,rfl,rfl⟩:=h
     exact ⟨hdst,.inl ⟨hg,rfl⟩⟩
    ·cases h
   ·cases h
  ·exact key rfl h
structure Hd where
 C : List Prop
 vals : List AV
 fr : Fr
 m : Nat
 hs : List Ht
def runH (cx : Cx) (K : List Nat) (n : Nat) (all : Array Oper) (ops : List Oper) (σ : Heap) : List Oper → Nat → Fr → List Ht → Hd
 | [],i,fr,hs => ⟨[],[],fr,i,hs⟩
 | o :: r,i,fr,hs => match oneH cx K n all σ o (restr ops o fr) hs with
  | none => ⟨[],[],fr,i,hs⟩
  | some (C,v,hs') => match isGuard ops i with
   | false => forceV v fun v => match runH cx K n all ops σ r (i + 1) (setA o.dst v fr) hs' with
    | ⟨D,vs,fr',m,hs''⟩ => ⟨C ++ D,v :: vs,fr',m,hs''⟩
   | true => match v with
    | .bool b => match hs' with
     | .b t :: hs' => match runH cx K n all ops σ r (i + 1) (setA o.dst (.bool t) fr) hs' with
      | ⟨D,vs,fr',m,hs''⟩ => ⟨C ++ ((b = t) :: D),.bool t :: vs,fr',m,hs''⟩
     | _ => ⟨[],[],fr,i,hs⟩
    | .tup us => match runH cx K n all ops σ r (i + 1) (setA o.dst (.tup us) fr) hs' with
     | ⟨D,vs,fr',m,hs''⟩ => ⟨C ++ D,.tup us :: vs,fr',m,hs''⟩
    | _ => ⟨[],[],fr,i,hs⟩
def runHK {α : Type} (cx : Cx) (K : List Nat) (n : Nat) (all : Array Oper) (ops : List Oper) (σ : Heap) : List Oper → Nat → Fr → List Ht → (List Prop → List AV → Fr → Nat → List Ht → α) → α
 | [],i,fr,hs,c => c [] [] fr i hs
 | o :: r,i,fr,hs,c => match oneH cx K n all σ o (restr ops o fr) hs with
  | none => c [] [] fr i hs
  | some (C,v,hs') => match isGuard ops i with
   | false => forceV v fun v => runHK cx K n all ops σ r (i + 1) (setA o.dst v fr) hs' fun D vs fr' m hs'' => c (C ++ D) (v :: vs) fr' m hs''
   | true => match v with
    | .bool b => match hs' with
     | .b t :: hs' => runHK cx K n all ops σ r (i + 1) (setA o.dst (.bool t) fr) hs' fun D vs fr' m hs'' => c (C ++ ((b = t) :: D)) (.bool t :: vs) fr' m hs''
     | _ => c [] [] fr i hs
    | .tup us => runHK cx K n all ops σ r (i + 1) (setA o.dst (.tup us) fr) hs' fun D vs fr' m hs'' => c (C ++ D) (.tup us :: vs) fr' m hs''
    | _ => c [] [] fr i hs
theorem runHK_eq {α : Type} {K : List Nat} {all : Array Oper} {ops : List Oper} : ∀ (l : List Oper) (i : Nat) (fr : Fr) (hs : List Ht) (c : List Prop → List AV → Fr → Nat → List Ht → α),
  runHK cx K n all ops σ l i fr hs c = c (runH cx K n all ops σ l i fr hs).C (runH cx K n all ops σ l i fr hs).vals (runH cx K n all ops σ l i fr hs).fr (runH cx K n all ops σ l i fr hs).m (runH cx K n all ops σ l i fr hs).hs
 | [],i,fr,hs,c => rfl
 | o :: l,i,fr,hs,c => by
  unfold runHK runH
  split
  ·rfl
  ·split
   ·simp only [forceV_eq]
    rw [runHK_eq l]
   ·split
    ·split
     ·rw [runHK_eq l]
     ·rfl
    ·rw [runHK_eq l]
    ·rfl
def HdOk (cx : Cx) (K : List Nat) (n : Nat) (all : Array Oper) (ops : List Oper) (σ : Heap) (l : List Oper) (i : Nat) (fr : Fr) (H : Hd) : Prop :=
 i ≤ H.m ∧ H.m - i ≤ l.length ∧ H.vals.length = H.m - i ∧ H.fr = ovl (l.take (H.m - i)) H.vals fr ∧
  ∀ (j : Nat) (o : Oper) (v : AV),j < H.m - i → l[j]? = some o → H.vals[j]? = some v → StepD cx n all σ K (restr ops o (ovl (l.take j) (H.vals.take j) fr)) o v
theorem HdOk.stop {K : List Nat} {all : Array Oper} {ops l : List Oper} {i : Nat} {fr : Fr} {hs : List Ht} : HdOk cx K n all ops σ l i fr ⟨[],[],fr,i,hs⟩:=by
 refine ⟨Nat.le_refl _,?_,?_,?_,fun j o v h => ?_⟩
 ·show i - i ≤ _; omega
 ·show 0 = i - i; omega
 ·show fr = ovl (l.take (i - i)) [] fr
  rw [Nat.sub_self]; rfl
 ·exfalso; have h : j < i - i:=h; omega
theorem HdOk.cons {K : List Nat} {all : Array Oper} {ops l : List Oper} {o : Oper} {i : Nat} {fr fr1 : Fr} {v : AV} {D E : List Prop} {vs : List AV} {m : Nat} {hs : List Ht}
  (h1 : StepD cx n all σ K (restr ops o fr) o v) (h : HdOk cx K n all ops σ l (i + 1) (setA o.dst v fr) ⟨D,vs,fr1,m,hs⟩) : HdOk cx K n all ops σ (o :: l) i fr ⟨E,v :: vs,fr1,m,hs⟩:=by
 obtain ⟨k1,k2,k3,k4,k5⟩:=h
 have k1 : i + 1 ≤ m:=k1
 have k2 : m - (i + 1) ≤ l.length:=k2
 have k3 : vs.length = m - (i + 1):=k3
 have k4 : fr1 = ovl (l.take (m - (i + 1))) vs (setA o.dst v fr):=k4
 have e : m - i = (m - (i + 1)) + 1:=by omega
 refine ⟨?_,?_,?_,?_,fun j oj vj hj ho hv => ?_⟩
 ·show i ≤ m; omega
 ·show m - i ≤ l.length + 1; omega
 ·show vs.length + 1 = m - i; omega
 ·show fr1 = ovl ((o :: l).take (m - i)) (v :: vs) fr
  rw [e,List.take_succ_cons,k4]; rfl
 ·have hj : j < m - i:=hj
  cases j with
  | zero =>
   have ho : some o = some oj:=ho
   have hv : some v = some vj:=hv
   cases ho; cases hv
   exact h1
  | succ j => exact k5 j oj vj (by show j < m - (i + 1); omega) ho hv
theorem runH_spec {K : List Nat} {all : Array Oper} {ops : List Oper} : ∀ (l : List Oper) (i : Nat) (fr : Fr) (hs : List Ht),AllP (runH cx K n all ops σ l i fr hs).C → HdOk cx K n all ops σ l i fr (runH cx K n all ops σ l i fr hs)
 | [],i,fr,hs,_ => HdOk.stop
 | o :: l,i,fr,hs,hC => by
  unfold runH at hC ⊢
  split at hC
  ·exact HdOk.stop
  ·rename_i C v hs' h1
   split at hC
   ·simp only [forceV_eq] at hC ⊢
    have ih:=runH_spec (K:=K) (all:=all) (ops:=ops) l (i + 1) (setA o.dst v fr) hs'
    generalize runH cx K n all ops σ l (i + 1) (setA o.dst v fr) hs' = H at hC ih ⊢
    obtain ⟨D,vs,fr',m,hs''⟩:=H
    obtain ⟨hC1,hC2⟩:=AllP_append hC
    exact HdOk.cons (oneH_spec h1 hC1) (ih hC2)
   ·split at hC
    ·rename_i b
     split at hC
     ·rename_i t hs1
      have ih:=runH_spec (K:=K) (all:=all) (ops:=ops) l (i + 1) (setA o.dst (.bool t) fr) hs1
      generalize runH cx K n all ops σ l (i + 1) (setA o.dst (.bool t) fr) hs1 = H at hC ih ⊢
      obtain ⟨D,vs,fr',m,hs''⟩:=H
      obtain ⟨hC1,hb,hC2⟩:=AllP_append hC
      subst hb
      exact HdOk.cons (oneH_spec h1 hC1) (ih hC2)
     ·exact HdOk.stop
    ·rename_i us
     have ih:=runH_spec (K:=K) (all:=all) (ops:=ops) l (i + 1) (setA o.dst (.tup us) fr) hs'
     generalize runH cx K n all ops σ l (i + 1) (setA o.dst (.tup us) fr) hs' = H at hC ih ⊢
     obtain ⟨D,vs,fr',m,hs''⟩:=H
     obtain ⟨hC1,hC2⟩:=AllP_append hC
     exact HdOk.cons (oneH_spec h1 hC1) (ih hC2)
    ·exact HdOk.stop
theorem S_drawH {id : Nat} {ops : Array Oper} (K : List Nat) (H : Hd) (hs : List Ht) (hP : cx.P.follows .mixedOrders = true) (hrun : runH cx K n ops ops.toList σ ops.toList 0 fr hs = H) (hchk : drawOk ops.toList H.m = true) (hC : AllP H.C)
  (hk : S cx n B (.ops ops (ops.toList.drop H.m) [] :: k) Q H.fr σ) : S cx n B (.code (.region id ops true) :: k) Q fr σ:=by
 intro r a w hi hf hd hx
 subst hrun
 have hspec:=runH_spec (K:=K) (all:=ops) (ops:=ops.toList) (n:=n) (cx:=cx) (σ:=σ) ops.toList 0 fr hs hC
 generalize runH cx K n ops ops.toList σ ops.toList 0 fr hs = H at hspec hchk hC hk
 obtain ⟨C,vals,fr',m,hs'⟩:=H
 obtain ⟨_,k2,k3,k4,k5⟩:=hspec
 simp only [Nat.sub_zero] at k2 k3 k4 k5 hchk hk
 obtain ⟨c1,c2,c3,c4,c5⟩:=drawOk_spec hchk
 obtain ⟨hi1,hx1⟩:=hi.heap_eq (w':={ w with drawn:=w.drawn + 1 }) rfl rfl rfl rfl
 have hf1:=hf.mono (hx1.grow hi)
 have nl : ∀ {j : Nat},¬ Listed (Array.replicate ops.size false) j:=by
  intro j hj
  unfold Listed at hj
  rw [Array.getD_eq_getD_getElem?,Array.getElem?_replicate] at hj
  split at hj <;> simp at hj
 refine wp_region_any hP ?_
 refine wpAny_front (cx:=cx) (n:=n) (B:=B) (fr:=fr) (σ:=σ) (m:=m) (vals:=vals) (K:=K) (by simpa using k2) k3 c1 c2 c3 c4 c5 (fun j o v hj ho hv => ?_) (fun r a w hi hf hd hx => ?_) ops.size _ r a _ (by simp) ?_ (fun j i hj => ?_) (fun j _ => ?_) ⟨hf1.size,fun j d v _ hj => ?_,fun t _ => hf1.get t,hf1.defs⟩ hi1 hd (hx.trans hx1)
 ·exact k5 j o v hj ho hv
 ·rw [k4] at hk
  exact hk r a w hi hf hd hx
 ·unfold unl; simp [List.countP_replicate]
 ·exact absurd hj nl
 ·exact nl
 ·exact absurd hj nl
def newOp (o : Op) : Bool:=match o with
 | .buildSlice .. => true
 | .convert .. => true
 | o => chgOp o
def forceIf {α : Type} (b : Bool) (σ : Heap) (c : Heap → α) : α:=match b with
 | true => forceL σ c
 | false => c σ
theorem forceIf_eq {α : Type} (b : Bool) (σ : Heap) (c : Heap → α) : forceIf b σ c = c σ:=by cases b <;> simp [forceIf,forceL_eq]
structure Rp where
 C : List Prop
 todo : List AI
 fr : Fr
 σ : Heap
 hs : List Ht
def revL {α β : Type} : List α → List α → (List α → β) → β
 | [],a,c => c a
 | x :: r,a,c => revL r (x :: a) c
theorem revL_eq {α β : Type} : ∀ (l a : List α) (c : List α → β),revL l a c = c (l.reverse ++ a)
 | [],a,c => rfl
 | x :: r,a,c => by rw [revL,revL_eq r]; simp
def halt (C : List Prop) (k : List AI) (fr : Fr) (σ : Heap) (hs : List Ht) : Rp:=revL C [] fun C => ⟨C,k,fr,σ,hs⟩
theorem halt_eq (C : List Prop) (k : List AI) (fr : Fr) (σ : Heap) (hs : List Ht) : halt C k fr σ hs = ⟨C.reverse,k,fr,σ,hs⟩:=by rw [halt,revL_eq,List.append_nil]
def gdSlot (all : Array Oper) (o : Oper) (fr : Fr) : Option (Nat × Bool) :=
 match o.guard with
 | some (j,_) => match all[j]? with
  | some oj => match oj.dst with
   | some d => match fr.get d with
    | .bool b => some (d,b)
    | _ => none
   | none => none
  | none => none
 | none => none
def runP (cx : Cx) (M : List Nat) (n : Nat) : Nat → List Prop → List Ht → List AI → Fr → Heap → Rp
  | 0,C,hs,k,fr,σ => halt C k fr σ hs
  | f + 1,C,hs,k,fr,σ =>
    match k with
    | [] => halt C [] fr σ hs
    | .code c :: k => match c with
      | .skip => runP cx M n f C hs k fr σ
      | .label _ => runP cx M n f C hs k fr σ
      | .seq a b => runP cx M n f C hs (.code a :: .code b :: k) fr σ
      | .block id c => runP cx M n f C hs (.code c :: .blk id :: k) fr σ
      | .region id ops draw => match draw with
        | false => runP cx M n f C hs (.ops ops ops.toList [] :: k) fr σ
        | true => match hs with
          | .d jc m K g rs :: hs' => match Nat.ble m ops.size with
            | true => match Nat.blt jc m with
              | true => match drawOk ops.toList m with
                | true => forceL (g σ) fun σ1 => match normC (runC cx K n ops ops.toList σ σ1 jc (ops.toList.take m) 0 fr rs) with
                  | some (D,vals,fr') => forceL fr' fun fr' => pushAll D ((cx.P.follows .mixedOrders = true) :: C) fun C => runP cx M n f C hs' (.ops ops (ops.toList.drop m) [] :: k) fr' σ1
                  | none => halt C (.code (.region id ops true) :: k) fr σ hs
                | false => halt C (.code (.region id ops true) :: k) fr σ hs
              | false => halt C (.code (.region id ops true) :: k) fr σ hs
            | false => halt C (.code (.region id ops true) :: k) fr σ hs
          | hs => runHK cx (guardKs ops.toList ops.toList) n ops ops.toList σ ops.toList 0 fr hs fun D vals fr' m hs' => match drawOk ops.toList m with
          | true => pushAll D ((cx.P.follows .mixedOrders = true) :: C) fun C => runP cx M n f C hs' (.ops ops (ops.toList.drop m) [] :: k) fr' σ
          | false => halt C (.code (.region id ops true) :: k) fr σ hs
      | .exit id => match popTo id k with
        | some k' => runP cx M n f C hs k' fr σ
        | none => halt C (.code (.exit id) :: k) fr σ hs
      | .cond c x y => match hs with
        | .b t :: hs' => match ev cx fr c with
          | .bool b => match t with
            | true => runP cx M n f ((b = true) :: C) hs' (.code x :: k) fr σ
            | false => runP cx M n f ((b = false) :: C) hs' (.code y :: k) fr σ
          | _ => halt C (.code (.cond c x y) :: k) fr σ hs
        | _ => halt C (.code (.cond c x y) :: k) fr σ hs
      | c => halt C (.code c :: k) fr σ hs
    | .blk _ :: k => runP cx M n f C hs k fr σ
    | .inv I :: k => halt C (.inv I :: k) fr σ hs
    | .ops all l K :: k => match l with
      | [] => runP cx M n f C hs k fr σ
      | o :: r => match stopH hs with
       | true => halt C (.ops all (o :: r) K :: k) fr σ hs
       | false => match dstOk n o.dst with
        | false => halt C (.ops all (o :: r) K :: k) fr σ hs
        | true => match guardA all o K fr with
          | none => match hs with
            | .b t :: hs' => match gdSlot all o fr with
              | some (d,b) => runP cx M n f ((b = t) :: C) hs' (.ops all (o :: r) (d :: K) :: k) ((d,.bool t) :: fr) σ
              | none => halt C (.ops all (o :: r) K :: k) fr σ hs
            | _ => halt C (.ops all (o :: r) K :: k) fr σ hs
          | some false => setC o.dst (.tup []) fr fun fr => runP cx M n f C hs (.ops all r K :: k) fr σ
          | some true => match callA cx fr o.op with
            | some (g,args) => match hs with
              | .v x :: hs' => setC o.dst x fr fun fr => runP cx M n f ((∃ args',Calc cx g args' x ∧ Frzs σ args args') :: C) hs' (.ops all r K :: k) fr σ
              | .k x :: hs' => setC o.dst x fr fun fr => runP cx M n f (CallOk cx g args σ (fun e s => e = .ret x ∧ s = σ) :: C) hs' (.ops all r K :: k) fr σ
              | .f x g' :: hs' => setC o.dst x fr fun fr => forceL (g' σ) fun σ' => runP cx M n f (CallOk cx g args σ (fun e s => e = .ret x ∧ s = g' σ) :: C) hs' (.ops all r K :: k) fr σ'
              | .c x σ' :: hs' => setC o.dst x fr fun fr => runP cx M n f (CallOk cx g args σ (fun e s => e = .ret x ∧ s = σ') :: C) hs' (.ops all r K :: k) fr σ'
              | _ => halt C (.ops all (o :: r) K :: k) fr σ hs
            | none => match stopOp o.op with
              | false => match aOp cx M o.dst o.op fr σ with
                | some (D,v,σ') => pushAll D C fun C => forceV v fun v => forceIf (newOp o.op) σ' fun σ' => setC o.dst v fr fun fr => runP cx M n f C hs (.ops all r K :: k) fr σ'
                | none => match storeA cx fr σ o.op with
                  | some (D,σ') => pushAll D C fun C => forceL σ' fun σ' => setC o.dst (.tup []) fr fun fr => runP cx M n f C hs (.ops all r K :: k) fr σ'
                  | none => match hs with
                    | .v x :: hs' => match loadA cx fr σ o.op x with
                      | some D => pushAll D C fun C => setC o.dst x fr fun fr => runP cx M n f C hs' (.ops all r K :: k) fr σ
                      | none => halt C (.ops all (o :: r) K :: k) fr σ hs
                    | _ => halt C (.ops all (o :: r) K :: k) fr σ hs
              | true => match hs with
                | .v x :: hs' => match idxA cx fr σ o.op x with
                  | some (D,v) => pushAll D C fun C => forceV v fun v => setC o.dst v fr fun fr => runP cx M n f C hs' (.ops all r K :: k) fr σ
                  | none => halt C (.ops all (o :: r) K :: k) fr σ hs
                | _ => halt C (.ops all (o :: r) K :: k) fr σ hs
theorem gdSlot_some {all : Array Oper} {o : Oper} {fr : Fr} {d : Nat} {b : Bool} (h : gdSlot all o fr = some (d,b)) : ∃ j want oj,o.guard = some (j,want) ∧ all[j]? = some oj ∧ oj.dst = some d ∧ fr.get d = .bool b:=by
 unfold gdSlot at h
 split at h
 ·rename_i j want hg
  split at h
  ·rename_i oj hj
   split at h
   ·rename_i d' hd
    split at h
    ·rename_i b' hb
     simp only [Option.some.injEq,Prod.mk.injEq] at h
     obtain ⟨rfl,rfl⟩:=h
     exact ⟨j,want,oj,hg,hj,hd,hb⟩
    ·cases h
   ·cases h
  ·cases h
 ·cases h
def Goes (cx : Cx) (n : Nat) (B : Bs) (Q : Post) (C : List Prop) (k : List AI) (fr : Fr) (σ : Heap) (R : Rp) : Prop:=AllP R.C → AllP C ∧ (S cx n B R.todo Q R.fr R.σ → S cx n B k Q fr σ)
theorem AllP_of_rev {C : List Prop} (h : AllP C.reverse) : AllP C:=(AllP_rev (C:=[]) (by simpa using h)).1
theorem Goes.here {C : List Prop} {hs : List Ht} : Goes cx n B Q C k fr σ (halt C k fr σ hs):=by
 rw [halt_eq]
 exact fun h => ⟨AllP_of_rev h,id⟩
theorem Goes.one {C : List Prop} {D : List Prop} {k k' : List AI} {fr fr' : Fr} {σ σ' : Heap} {R : Rp} (h : Goes cx n B Q (D.reverse ++ C) k' fr' σ' R) (hs : AllP D → S cx n B k' Q fr' σ' → S cx n B k Q fr σ) : Goes cx n B Q C k fr σ R:=fun hC => by
 obtain ⟨h1,h2⟩:=h hC
 obtain ⟨h3,h4⟩:=AllP_rev h1
 exact ⟨h4,fun q => hs h3 (h2 q)⟩
theorem runP_sound {M : List Nat} : ∀ (f : Nat) (C : List Prop) (hs : List Ht) (k : List AI) (fr : Fr) (σ : Heap),Goes cx n B Q C k fr σ (runP cx M n f C hs k fr σ):=by
 intro f
 induction f with
 | zero => intro C hs k fr σ; exact .here
 | succ f ih =>
  intro C hs k fr σ
  unfold runP
  split
  ·exact .here
  ·rename_i c k'
   split
   ·exact (ih _ _ _ _ _).one (D:=[]) fun _ => S_skip
   ·exact (ih _ _ _ _ _).one (D:=[]) fun _ => S_label
   ·exact (ih _ _ _ _ _).one (D:=[]) fun _ => S_seq
   ·exact (ih _ _ _ _ _).one (D:=[]) fun _ => S_block
   ·rename_i id ops draw
    split
    ·exact (ih _ _ _ _ _).one (D:=[]) fun _ => S_region
    split
    ·rename_i jc m K g rs hs'
     split
     case h_2 => exact .here
     rename_i hmN
     split
     case h_2 => exact .here
     rename_i hjc
     split
     case h_2 => exact .here
     rename_i hchk
     rw [forceL_eq]
     split
     case h_2 => exact .here
     rename_i D vals fr' hrun
     rw [forceL_eq,pushAll_eq]
     refine Goes.one (D:=(cx.P.follows .mixedOrders = true) :: D) (fr':=fr') (σ':=g σ) (k':=.ops ops (ops.toList.drop m) [] :: k') (by rw [List.reverse_cons,List.append_assoc]; exact ih _ _ _ _ _) fun hD hk => ?_
     exact S_drawCN (g σ) jc m K rs hD.1 hchk hmN hjc hrun hD.2 hk
    ·rw [runHK_eq]
     generalize hrun : runH cx (guardKs ops.toList ops.toList) n ops ops.toList σ ops.toList 0 fr hs = H
     obtain ⟨D,vals,fr',m,hs'⟩:=H
     simp only
     split
     ·rename_i hchk
      rw [pushAll_eq]
      refine Goes.one (D:=(cx.P.follows .mixedOrders = true) :: D) (fr':=fr') (σ':=σ) (k':=.ops ops (ops.toList.drop m) [] :: k') (by rw [List.reverse_cons,List.append_assoc]; exact ih _ _ _ _ _) fun hD hk => ?_
      exact S_drawH (guardKs ops.toList ops.toList) _ hs hD.1 hrun hchk hD.2 hk
     ·exact .here
   ·split
    ·rename_i id k'' hp
     exact (ih _ _ _ _ _).one (D:=[]) fun _ => S_exit hp
    ·exact .here
   ·rename_i c x y
    split
    ·rename_i t hs'
     split
     ·rename_i b hb
      split
      ·exact (ih _ _ _ _ _).one (D:=[b = true]) fun hD hk => S_cond hb (fun _ => hk) (fun h => by rw [hD.1] at h; cases h)
      ·exact (ih _ _ _ _ _).one (D:=[b = false]) fun hD hk => S_cond hb (fun h => by rw [hD.1] at h; cases h) (fun _ => hk)
     ·exact .here
    ·exact .here
   ·exact .here
  ·exact (ih _ _ _ _ _).one (D:=[]) fun _ => S_blk
  ·exact .here
  ·rename_i all l K k'
   split
   ·exact (ih _ _ _ _ _).one (D:=[]) fun _ => S_ops_nil
   ·rename_i o r
    split
    ·exact .here
    rename_i hst
    clear hst
    split
    ·exact .here
    ·rename_i hd
     split
     ·rename_i hg
      split
      ·rename_i t hs'
       split
       ·rename_i d b hgd
        obtain ⟨j,want,oj,e1,e2,e3,e4⟩:=gdSlot_some hgd
        refine (ih _ _ _ _ _).one (D:=[b = t]) fun hD hk => ?_
        obtain rfl : b = t:=hD.1
        exact S_guard e1 e2 e3 e4 (fun h => by subst h; exact hk) (fun h => by subst h; exact hk)
       ·exact .here
      ·exact .here
     ·rename_i hg
      rw [setC_eq]
      exact (ih _ _ _ _ _).one (D:=[]) fun _ => S_op_skip hg hd
     ·rename_i hg
      split
      ·rename_i g args hc
       split
       ·rename_i x hs'
        rw [setC_eq]
        refine (ih _ _ _ _ _).one (D:=[∃ args',Calc cx g args' x ∧ Frzs σ args args']) fun hD hk => ?_
        obtain ⟨⟨args',h1,h2⟩,_⟩:=hD
        exact S_pure hc hg hd h1 h2 hk
       ·rename_i x hs'
        rw [setC_eq]
        refine (ih _ _ _ _ _).one (D:=[CallOk cx g args σ (fun e s => e = .ret x ∧ s = σ)]) fun hD hk => ?_
        exact S_call hg hc hd hD.1 (fun v s h => by obtain ⟨h1,rfl⟩:=h; obtain rfl:=Out.ret.inj h1; exact hk) (fun v s h => by cases h.1)
       ·rename_i x g' hs'
        rw [setC_eq,forceL_eq]
        refine (ih _ _ _ _ _).one (D:=[CallOk cx g args σ (fun e s => e = .ret x ∧ s = g' σ)]) fun hD hk => ?_
        exact S_call hg hc hd hD.1 (fun v s h => by obtain ⟨h1,rfl⟩:=h; obtain rfl:=Out.ret.inj h1; exact hk) (fun v s h => by cases h.1)
       ·rename_i x σ' hs'
        rw [setC_eq]
        refine (ih _ _ _ _ _).one (D:=[CallOk cx g args σ (fun e s => e = .ret x ∧ s = σ')]) fun hD hk => ?_
        exact S_call hg hc hd hD.1 (fun v s h => by obtain ⟨h1,rfl⟩:=h; obtain rfl:=Out.ret.inj h1; exact hk) (fun v s h => by cases h.1)
       ·exact .here
      ·split
       ·split
        ·rename_i D v σ' ha
         rw [pushAll_eq]
         simp only [forceV_eq,forceIf_eq,setC_eq]
         exact (ih _ _ _ _ _).one (D:=D) fun hD hk => S_op hg ha hD hd hk
        ·split
         ·rename_i D σ' ha
          rw [pushAll_eq]
          simp only [forceL_eq,setC_eq]
          exact (ih _ _ _ _ _).one (D:=D) fun hD hk => S_store ha hg hd hD hk
         ·split
          ·rename_i x hs'
           split
           ·rename_i D ha
            rw [pushAll_eq]
            simp only [setC_eq]
            exact (ih _ _ _ _ _).one (D:=D) fun hD hk => S_load x ha hg hd hD hk
           ·exact .here
          ·exact .here
       ·split
        ·rename_i x hs'
         split
         ·rename_i D v ha
          rw [pushAll_eq]
          simp only [forceV_eq,setC_eq]
          exact (ih _ _ _ _ _).one (D:=D) fun hD hk => S_index x ha hg hd hD hk
         ·exact .here
        ·exact .here
theorem pago (M : List Nat) {k k' : List AI} {fr fr' : Fr} {σ σ' : Heap} {C : List Prop} (hs : List Ht) {hs' : List Ht} (h : runP cx M n 2000 [] hs k fr σ = ⟨C,k',fr',σ',hs'⟩) (hC : AllP C)
  (hk : S cx n B k' Q fr' σ') : S cx n B k Q fr σ:=by
 have hg:=runP_sound (M:=M) (cx:=cx) (n:=n) (B:=B) (Q:=Q) 2000 [] hs k fr σ
 rw [h] at hg
 exact (hg hC).2 hk
theorem pa {k k' : List AI} {fr fr' : Fr} {σ σ' : Heap} {C : List Prop} (hs : List Ht) {hs' : List Ht} (h : runP cx [] n 2000 [] hs k fr σ = ⟨C,k',fr',σ',hs'⟩) (hC : AllP C)
  (hk : S cx n B k' Q fr' σ') : S cx n B k Q fr σ:=pago [] hs h hC hk
theorem pB {k k' : List AI} {fr fr' : Fr} {σ σ' : Heap} {C : List Prop} (hs : List Ht) {hs' : List Ht} (h : runP cx [] n 2000 [] hs k fr σ = ⟨C,k',fr',σ',hs'⟩) (hk : S cx n B k' Q fr' σ') (hC : AllP C:=by (repeat' with_reducible apply AllP_cons) <;> exact aC) : S cx n B k Q fr σ:=pago [] hs h hC hk
theorem S_share {c : Code} {k' : List AI} (F : Fr) (σ' : Heap) (hm : (∀ fr,Weak fr F → S cx n B (.code c :: k') Q fr σ') → S cx n B k Q fr σ) (hk : S cx n B (.code c :: k') Q F σ') : S cx n B k Q fr σ:=hm fun fr hw => S_code_weak hw hk
theorem S_callP {all : Array Oper} {o : Oper} {l : List Oper} {K : List Nat} {f : FuncId} {args : List AV} {v : AV} {σ' : Heap} (hg : guardA all o K fr = some true) (hc : callA cx fr o.op = some (f,args)) (hd : dstOk n o.dst = true)
  (hcall : CallOk cx f args σ (fun e s => e = .panic v ∧ s = σ')) (hk : Q (.panic v) fr σ') : S cx n B (.ops all (o :: l) K :: k) Q fr σ :=
 S_call hg hc hd hcall (fun v s h => by cases h.1) (fun v s h => by obtain ⟨h1,rfl⟩:=h; cases h1; exact hk)
theorem S_cut {todo : List AI} {id cur : Nat} {cs : List AV} {ty : Option TypeId} (m : Nat) (h : σ[id]? = some (cur,some (.cells cs ⟨false,ty⟩))) (hT : ∃ c k,todo = .code c :: k ∨ ∃ all l K,todo = .ops all l K :: k)
  (hk : S cx n B todo Q fr (σ.set id (cur,some (.cells (cs.take m) ⟨false,ty⟩)))) : S cx n B todo Q fr σ:=by
 have key : ∀ r w,Inv cx r σ w → Inv cx r (σ.set id (cur,some (.cells (cs.take m) ⟨false,ty⟩))) w ∧ Ext r σ w r (σ.set id (cur,some (.cells (cs.take m) ⟨false,ty⟩))) w:=by
  intro r w hi
  refine hi.recast h (fun b o hb => ?_) (fun ro hro => by cases hro; exact ⟨_,by rw [List.take_nil]⟩)
  obtain ⟨c,t,lo,hi,h1,h2,h3,h4,h5⟩:=hb
  refine ⟨c,t,lo,hi,h1,fun i hil => ?_,fun x hx => h3 x (List.mem_of_mem_take hx),fun i a b c => (by cases (h4 i a b c).1),h5⟩
  have hil' : i < cs.length:=by rw [List.length_take] at hil; omega
  obtain ⟨v,k1,k2⟩:=h2 i hil'
  exact ⟨v,k1,by rw [List.getElem_take]; exact k2⟩
 obtain ⟨c,k,hT⟩:=hT
 rcases hT with rfl | ⟨all,l,K,rfl⟩
 ·intro r a w hi hf hd hx
  obtain ⟨q1,q2⟩:=key r w hi
  exact hk r a w q1 (hf.mono (q2.grow hi)) hd (hx.trans q2)
 ·intro r a w hi hf hd hx
  obtain ⟨q1,q2⟩:=key r w hi
  exact hk r a w q1 (hf.mono (q2.grow hi)) hd (hx.trans q2)
end
end
theorem putAll_pre {σ τ es : Heap} {n : Nat} (hn : σ.length = n) (he : es.length = n) : putAll (σ ++ τ) (List.range n) es = es ++ τ:=by
 have hl : (putAll (σ ++ τ) (List.range n) es).length = (es ++ τ).length:=by
  rw [putAll_length _ _ _ (by simp; omega)]; simp; omega
 refine List.ext_getElem? fun i => ?_
 rcases Nat.lt_or_ge i n with h | h
 ·rw [putAll_at (List.range n) es (σ ++ τ) i i List.nodup_range (fun j hj => by rw [List.mem_range] at hj; simp; omega) (by simp; omega) (by rw [List.getElem?_append_left (by simpa using h)]; simp [h]),List.getElem?_append_left (by omega)]
 ·rcases Nat.lt_or_ge i (σ ++ τ).length with h2 | h2
  ·rw [putAll_other _ _ _ i h2 (by simp; omega),List.getElem?_append_right (by omega),List.getElem?_append_right (by omega),hn,he]
  ·rw [List.getElem?_eq_none (by rw [hl]; simp at h2 ⊢; omega),List.getElem?_eq_none (by simp at h2 ⊢; omega)]
def RnO (ids : List Nat) : Out → Prop
 | .ret v => Rn ids v v
 | .panic v => Rn ids v v
theorem CallOk.pre {cx : Cx} {f : FuncId} {args : List AV} {σ : Heap} {R : Out → Heap → Prop} (n : Nat) (τ : Heap) (h : CallOk cx f args σ R) (hn : σ.length = n) (ha : Rns (List.range n) args args) (hs : RnH (List.range n) σ σ)
  (hR : ∀ o s,R o s → s.length = n ∧ RnH (List.range n) s s ∧ RnO (List.range n) o) : CallOk cx f args (σ ++ τ) (fun o s => ∃ s0,s = s0 ++ τ ∧ R o s0):=by
 have hp : Part (List.range n) σ (σ ++ τ):=by
  refine ⟨List.nodup_range,fun j hj => by rw [List.mem_range] at hj; simp; omega,by simp [hn],fun i j e hi he => ?_⟩
  have hil : i < σ.length:=by
   rcases Nat.lt_or_ge i σ.length with h' | h'
   ·exact h'
   ·rw [List.getElem?_eq_none h'] at he; cases he
  have : j = i:=by
   rw [List.getElem?_range (by omega)] at hi; exact (Option.some.inj hi).symm
  subst this
  refine ⟨e,by rw [List.getElem?_append_left hil]; exact he,?_⟩
  have h1:=hs.2 j hil hil
  rw [List.getElem?_eq_getElem hil] at he
  rw [Option.some.inj he] at h1; exact h1
 refine ⟨h.1,fun r w vs hi hv => ?_⟩
 have hsub:=frame_down hi hp
 have hvs : VRels (r.sub (List.range n)) w vs args:=by
  refine ⟨hv.1,fun i hi' => ?_⟩
  refine (ha.2 i hi' hi').down (r:=r) (r':=r.sub (List.range n)) (fun _ h => h) (fun _ h => h) hi.SI (fun i j ver p h1 h2 => ?_) (hv.2 i hi')
  simp only [Rl.sub,h1]; exact h2
 refine (h.2 _ w vs hsub hvs).mono fun e w' ⟨out,σ1,r1,hRo,ho,hi1,hx1⟩ => ?_
 obtain ⟨k1,k2,k3⟩:=hR _ _ hRo
 have hids : List.range n = List.range n ++ newIds (σ ++ τ).length (σ1.length - (List.range n).length):=by
  rw [List.length_range,k1,Nat.sub_self]; simp [newIds]
 obtain ⟨q1,q2,q3⟩:=frame_up hi hp hi1 hx1 hids k2
 rw [putAll_pre hn k1] at q1 q2
 cases e <;> cases out <;> first | exact ho.elim | skip
 ·exact ⟨_,_,_,⟨σ1,rfl,hRo⟩,q3 _ _ _ k3 ho,q1,q2⟩
 ·obtain ⟨u,hu1,hu2⟩:=ho
  exact ⟨_,_,_,⟨σ1,rfl,hRo⟩,⟨u,hu1,q3 _ _ _ k3 hu2⟩,q1,q2⟩
theorem CallOk.pre1 {cx : Cx} {f : FuncId} {args : List AV} {σ σ' : Heap} {x : AV} (n : Nat) (τ : Heap) (h : CallOk cx f args σ (fun e s => e = .ret x ∧ s = σ')) (hn : σ.length = n) (hn' : σ'.length = n) (ha : Rns (List.range n) args args) (hs : RnH (List.range n) σ σ)
  (hs' : RnH (List.range n) σ' σ') (hx : Rn (List.range n) x x) : CallOk cx f args (σ ++ τ) (fun e s => e = .ret x ∧ s = σ' ++ τ) :=
 (h.pre n τ hn ha hs (fun o s h => by obtain ⟨rfl,rfl⟩:=h; exact ⟨hn',hs',hx⟩)).mono fun o s ⟨s0,h1,h2,h3⟩ => ⟨h2,by rw [h1,h3]⟩
theorem putAll_mid {τ σ τ' es : Heap} {k n : Nat} (hk : τ.length = k) (hn : σ.length = n) (he : es.length = n) : putAll (τ ++ (σ ++ τ')) (List.range' k n) es = τ ++ (es ++ τ'):=by
 have hl : (putAll (τ ++ (σ ++ τ')) (List.range' k n) es).length = (τ ++ (es ++ τ')).length:=by
  rw [putAll_length _ _ _ (by simp; omega)]; simp; omega
 refine List.ext_getElem? fun i => ?_
 by_cases hm : k ≤ i ∧ i < k + n
 ·obtain ⟨h1,h2⟩:=hm
  have e1 : (List.range' k n ++ newIds (τ ++ (σ ++ τ')).length (es.length - (List.range' k n).length))[i - k]? = some i:=by
   rw [List.getElem?_append_left (by simp; omega),List.getElem?_range' (by omega)]
   congr 1; omega
  rw [putAll_at (List.range' k n) es (τ ++ (σ ++ τ')) (i - k) i List.nodup_range' (fun j hj => by rw [List.mem_range'_1] at hj; simp; omega) (by simp; omega) e1,List.getElem?_append_right (by omega),hk,List.getElem?_append_left (by omega)]
 ·rcases Nat.lt_or_ge i (τ ++ (σ ++ τ')).length with h2 | h2
  ·rw [putAll_other _ _ _ i h2 (by rw [List.mem_range'_1]; omega)]
   rcases Nat.lt_or_ge i k with h3 | h3
   ·rw [List.getElem?_append_left (by omega),List.getElem?_append_left (by omega)]
   ·rw [List.getElem?_append_right (by omega),List.getElem?_append_right (by omega),List.getElem?_append_right (by omega),List.getElem?_append_right (by omega),hn,he]
  ·rw [List.getElem?_eq_none (by rw [hl]; simp at h2 ⊢; omega),List.getElem?_eq_none (by simp at h2 ⊢; omega)]
theorem CallOk.mid {cx : Cx} {f : FuncId} {args args' : List AV} {σ σ' σ2 σ2' : Heap} {x x' : AV} (k n : Nat) (τ τ' : Heap) (h : CallOk cx f args σ (fun e s => e = .ret x ∧ s = σ')) (hk : τ.length = k) (hn : σ.length = n) (hn' : σ'.length = n)
  (ha : Rns (List.range' k n) args args') (hs : RnH (List.range' k n) σ σ2) (hs' : RnH (List.range' k n) σ' σ2') (hx : Rn (List.range' k n) x x') : CallOk cx f args' (τ ++ (σ2 ++ τ')) (fun e s => e = .ret x' ∧ s = τ ++ (σ2' ++ τ')):=by
 have hn2 : σ2.length = n:=hs.1.symm.trans hn
 have hn2' : σ2'.length = n:=hs'.1.symm.trans hn'
 have hp : Part (List.range' k n) σ (τ ++ (σ2 ++ τ')):=by
  refine ⟨List.nodup_range',fun j hj => by rw [List.mem_range'_1] at hj; simp; omega,by simp [hn],fun i j e hi he => ?_⟩
  have hil : i < σ.length:=by
   rcases Nat.lt_or_ge i σ.length with h' | h'
   ·exact h'
   ·rw [List.getElem?_eq_none h'] at he; cases he
  have : j = k + i:=by
   rw [List.getElem?_range' (by omega)] at hi; have:=Option.some.inj hi; omega
  subst this
  have hil2 : i < σ2.length:=by omega
  refine ⟨σ2[i],by rw [List.getElem?_append_right (by omega),List.getElem?_append_left (by omega),hk,Nat.add_sub_cancel_left,List.getElem?_eq_getElem hil2],?_⟩
  have h1:=hs.2 i hil hil2
  rw [List.getElem?_eq_getElem hil] at he
  rw [Option.some.inj he] at h1; exact h1
 refine ⟨h.1,fun r w vs hi hv => ?_⟩
 have hsub:=frame_down hi hp
 have hvs : VRels (r.sub (List.range' k n)) w vs args:=by
  refine ⟨hv.1.trans ha.1.symm,fun i hi' => ?_⟩
  refine (ha.2 i hi' (by rw [← ha.1]; exact hi')).down (r:=r) (r':=r.sub (List.range' k n)) (fun _ h => h) (fun _ h => h) hi.SI (fun i j ver p h1 h2 => ?_) (hv.2 i (by rw [← ha.1]; exact hi'))
  simp only [Rl.sub,h1]; exact h2
 refine (h.2 _ w vs hsub hvs).mono fun e w' ⟨out,σ1,r1,hRo,ho,hi1,hx1⟩ => ?_
 obtain ⟨rfl,rfl⟩:=hRo
 have hids : List.range' k n = List.range' k n ++ newIds (τ ++ (σ2 ++ τ')).length (σ2'.length - (List.range' k n).length):=by
  rw [List.length_range',hn2',Nat.sub_self]; simp [newIds]
 obtain ⟨q1,q2,q3⟩:=frame_up hi hp hi1 hx1 hids hs'
 rw [putAll_mid hk hn2 hn2'] at q1 q2
 cases e with
 | returned u => exact ⟨.ret x',_,_,⟨rfl,rfl⟩,q3 _ _ _ hx ho,q1,q2⟩
 | panicked chain => exact ho.elim
 | outgrown => exact ho.elim
end Go.Ab
end
section
namespace Go.Proofs.YtonjhfeabphaaaaGreatDoor
open Go Go.Ab
def tokC (t : Tok) : List AV:=[.int .i64 t.kind,.str t.text,.int .i64 t.num,.int .i64 t.place]
def outB (u : Nat) (l : List Tok) : Nat × Option Box:=(u,some (.cells (l.flatMap tokC) ⟨false,none⟩))
theorem tokC_len (l : List Tok) : (l.flatMap tokC).length = l.length * 4:=by
 induction l with
 | nil => rfl
 | cons t r ih => rw [List.flatMap_cons,List.length_append,ih,List.length_cons]; show 4 + r.length * 4 = _; omega
theorem put_ok (v a u : Nat) (xa : Box) (s : List UInt8) (i o : Nat) (ins : AV) (l : List Tok) (k : Nat) (t : List UInt8) (p : Nat) (hl : l.length ≤ 1000000) :
  CallOk cx 78 [.ptr 0 v 0,.int .i64 k,.str t,.int .i64 p] [spB v s i o ins (.ms 2 u 0 l.length 4 false),(a,some xa),outB u l]
   (fun r σ => r = .ret (.tup []) ∧ σ = [spB v s i o ins (.ms 2 (u + 1) 0 (l.length + 1) 4 false),(a,some xa),outB (u + 1) (l ++ [⟨k,t,0,p⟩])]) :=
 callOk_intro (fun a w => Tryz.call78 a w) Tryz.func78 rfl Tryz.ntmps78 rfl fun B => by
  have hL:=tokC_len l
  have tk : tokC ⟨k,t,0,p⟩ = [.int .i64 k,.str t,.int .i64 ((0 : Nat) : Int),.int .i64 p]:=rfl
  refine ab 1000 rfl ⟨Nat.le_of_ble_eq_true rfl,rfl,?_,?_,?_,rfl,rfl,allOne_mem (cs:=[.int .i64 k,.str t,.int .i64 0,.int .i64 p]) rfl,allOne_mem (cs:=[.int .i64 k,.str t,.int .i64 0,.int .i64 p]) rfl,rfl,rfl,trivial⟩ ?_
  ·show l.length + 1 ≤ 9223372036854775807; omega
  ·show (l.length + 1) * 40 ≤ 140737488355328; omega
  ·show 0 + l.length * 4 = (l.flatMap tokC).length; omega
  refine S_nil ⟨_,_,rfl,trivial,rfl,?_⟩
  show [spB v s i o ins (.ms 2 (u + 1) 0 (l.length + 1) 4 false),(a,some xa),(u + 1,some (Box.cells (l.flatMap tokC ++ [.int .i64 k,.str t,.int .i64 0,.int .i64 p]) ⟨false,none⟩))] = _
  rw [outB,List.flatMap_append]
  rfl
theorem fail_ok (τ : Heap) (v : Nat) (x : Int) (p : Int) : CallOk cx 77 [.ptr 0 v 0,.int .i64 x,.int .i64 p] τ (fun r σ' => r = .panic (.iface 25 (.agg [.int .i64 x,.int .i64 p])) ∧ σ' = τ) :=
 callOk_intro (fun a w => Tryz.call77 a w) Tryz.func77 rfl Tryz.ntmps77 rfl fun B => by
  refine pB [] rfl ?_
  exact S_panic rfl rfl rfl ⟨rfl,rfl⟩
theorem run_ok (F : FuncId) (P : UInt8 → Bool) (hF : ∀ c : UInt8,Calc cx F [.int .u8 (c.toNat : Nat)] (.bool (P c))) (v a b : Nat) (xa xb : Box) (s : List UInt8) (i o : Nat) (ins out : AV) (hi : i ≤ s.length) (hs : s.length ≤ 1048576) :
  CallOk cx 110 [.ptr 0 v 0,.func (.func F) [] []] [spB v s i o ins out,(a,some xa),(b,some xb)]
   (fun r σ => r = .ret (.str ((s.take (stopAt P s i)).drop i)) ∧ σ = [spB v s (stopAt P s i) o ins out,(a,some xa),(b,some xb)]) :=
 callOk_intro (fun a w => Tryz.call110 a w) Tryz.func110 rfl Tryz.ntmps110 rfl fun B => by
  refine ab 1000 rfl ⟨rfl,trivial⟩ ?_
  refine S_while (α:=Nat) (fun j => [(0,.ptr 0 v 0),(1,.func (.func F) [] []),(5,.int .i64 (i : Nat))]) (fun j => [spB v s j o ins out,(a,some xa),(b,some xb)]) (fun j => i ≤ j ∧ j ≤ s.length ∧ stopAt P s j = stopAt P s i) (fun j => s.length - j) i
   ⟨Nat.le_refl _,hi,rfl⟩ (.cons rfl (.cons rfl (.cons rfl (.nil _)))) rfl ?_
  rintro j ⟨hij,hj,hN⟩
  have hj : j ≤ s.length:=hj
  refine ab 1000 rfl trivial ?_
  by_cases hlt : j < s.length
  ·have c1 : (0 : Int) ≤ (j : Int) ∧ (j : Int) < (s.length : Int):=by omega
   have hgc : (((s.getD (j : Int).toNat 0).toNat : Nat) : Int) = ((s[j].toNat : Nat) : Int):=by rw [Int.toNat_natCast,getD_byte hlt]
   refine S_drawV 10 22 [20] [.bool true,.bool (P s[j])] rfl rfl rfl rfl ⟨rfl,rfl,rfl,rfl,rfl,rfl,rfl,rfl,rfl,rfl,rfl,rfl,rfl,congrArg AV.bool (decide_eq_true (by omega)),rfl,rfl,rfl,rfl,rfl,rfl,rfl,rfl,rfl,rfl,rfl,rfl,c1.1,c1.2,⟨_,hF s[j],.cons (by show Frz false _ (.int .u8 (((s.getD (j : Int).toNat 0).toNat : Nat) : Int)) _; rw [hgc]; exact .refl .int) (.nil _)⟩,trivial⟩ ?_
   refine ab 1000 rfl trivial ?_
   refine S_cond rfl (fun hb => ?_) (fun hb => ?_)
   ·refine ab 1000 rfl ⟨Nat.le_of_ble_eq_true rfl,rfl,rfl,trivial⟩ ?_
    refine S_round (j + 1) (by show s.length - (j + 1) < s.length - j; omega) ⟨by omega,hlt,by rw [← hN,stopAt_yes hlt hb]⟩ (.cons rfl (.cons rfl (.cons rfl (.nil _)))) ?_
    show [(v,some (Box.cells [.str s,.int .i64 (IntKind.i64.wrap ((j : Int) + 1)),.int .i64 o,ins,out] _)),_,_] = _
    rw [show AV.int .i64 (IntKind.i64.wrap ((j : Int) + 1)) = .int .i64 ((j + 1 : Nat) : Int) from ai64 rfl (by omega)]; rfl
   ·have hst : stopAt P s i = j:=by rw [← hN,stopAt_no hlt hb]
    rw [hst]
    refine ab 1000 rfl trivial ?_
    refine S_draw 10 [] [] rfl rfl rfl rfl ⟨rfl,rfl,rfl,rfl,rfl,rfl,rfl,rfl,rfl,rfl,rfl,rfl,by omega,by omega,by omega,trivial⟩ ?_
    refine ab 1000 rfl trivial ?_
    refine S_ret ⟨_,_,rfl,trivial,?_,rfl⟩
    show Out.ret (.str ((s.take (j : Int).toNat).drop (i : Int).toNat)) = _
    rw [Int.toNat_natCast,Int.toNat_natCast]
  ·refine S_drawV 10 22 [20] [.bool false] rfl rfl rfl rfl ⟨rfl,rfl,rfl,rfl,rfl,rfl,rfl,rfl,rfl,rfl,rfl,rfl,rfl,congrArg AV.bool (decide_eq_false (by omega)),trivial⟩ ?_
   refine ab 1000 rfl trivial ?_
   refine S_cond (b:=false) rfl (fun h => by cases h) (fun _ => ?_)
   have hst : stopAt P s i = j:=by rw [← hN,stopAt_end (by omega)]
   rw [hst]
   refine ab 1000 rfl trivial ?_
   refine S_draw 10 [] [] rfl rfl rfl rfl ⟨rfl,rfl,rfl,rfl,rfl,rfl,rfl,rfl,rfl,rfl,rfl,rfl,by omega,by omega,by omega,trivial⟩ ?_
   refine ab 1000 rfl trivial ?_
   refine S_ret ⟨_,_,rfl,trivial,?_,rfl⟩
   show Out.ret (.str ((s.take (j : Int).toNat).drop (i : Int).toNat)) = _
   rw [Int.toNat_natCast,Int.toNat_natCast]
def rsB (v : Nat) (s : List UInt8) (i o : Nat) (ins out : AV) : Nat × Option Box:=(v,some (.cells [.str s,.int .i64 i,.int .i64 o,ins,out] ⟨false,some 79⟩))
theorem has_ok (v a b : Nat) (xa xb : Box) (s : List UInt8) (i o : Nat) (ins out : AV) (c : UInt8) (hs : s.length ≤ 1048576) :
  CallOk cx 60 [.ptr 0 v 0,.int .u8 (c.toNat : Nat)] [rsB v s i o ins out,(a,some xa),(b,some xb)] (fun r σ => r = .ret (.bool (s[i]? == some c)) ∧ σ = [rsB v s i o ins out,(a,some xa),(b,some xb)]) :=
 callOk_intro (fun a w => Tryz.call60 a w) Tryz.func60 rfl Tryz.ntmps60 rfl fun B => by
  refine ab 1000 rfl trivial ?_
  by_cases hlt : i < s.length
  ·have c1 : (0 : Int) ≤ (i : Int) ∧ (i : Int) < (s.length : Int):=by omega
   have hgc : (((s.getD (i : Int).toNat 0).toNat : Nat) : Int) = ((s[i].toNat : Nat) : Int):=by rw [Int.toNat_natCast,getD_byte hlt]
   refine S_drawV 10 22 [15] [.bool true] rfl rfl rfl rfl ⟨rfl,rfl,rfl,rfl,rfl,rfl,rfl,rfl,rfl,rfl,rfl,rfl,rfl,congrArg AV.bool (decide_eq_true (by omega)),rfl,rfl,rfl,rfl,rfl,rfl,rfl,rfl,rfl,rfl,rfl,c1.1,c1.2,rfl,rfl,trivial⟩ ?_
   refine ab 1000 rfl trivial ?_
   refine S_ret ⟨_,_,rfl,trivial,?_,rfl⟩
   show Out.ret (.bool ((((s.getD (i : Int).toNat 0).toNat : Nat) : Int) == (c.toNat : Int))) = _
   rw [hgc,List.getElem?_eq_getElem hlt]
   congr 2
   rw [Bool.eq_iff_iff,beq_iff_eq,beq_iff_eq,Option.some.injEq]
   exact ⟨fun h => UInt8.toNat_inj.1 (by omega),fun h => by rw [h]⟩
  ·refine S_drawV 10 22 [15] [.bool false] rfl rfl rfl rfl ⟨rfl,rfl,rfl,rfl,rfl,rfl,rfl,rfl,rfl,rfl,rfl,rfl,rfl,congrArg AV.bool (decide_eq_false (by omega)),trivial⟩ ?_
   refine ab 1000 rfl trivial ?_
   refine S_ret ⟨_,_,rfl,trivial,?_,rfl⟩
   rw [List.getElem?_eq_none (by omega)]; rfl
theorem gap_ok (v a b : Nat) (xa xb : Box) (s : List UInt8) (i o : Nat) (ins out : AV) (hi : i ≤ s.length) (hs : s.length ≤ 1048576) :
  CallOk cx 58 [.ptr 0 v 0] [rsB v s i o ins out,(a,some xa),(b,some xb)] (fun r σ => r = .ret (.int .i64 (gapE s i - i : Nat)) ∧ σ = [rsB v s (gapC s i) o ins out,(a,some xa),(b,some xb)]) :=
 callOk_intro (fun a w => Tryz.call58 a w) Tryz.func58 rfl Tryz.ntmps58 rfl fun B => by
  refine ab 1000 rfl ⟨rfl,trivial⟩ ?_
  refine S_while (α:=Nat) (fun j => [(0,.ptr 0 v 0),(3,.int .i64 (i : Nat))]) (fun j => [rsB v s j o ins out,(a,some xa),(b,some xb)]) (fun j => i ≤ j ∧ j ≤ s.length ∧ gapE s j = gapE s i) (fun j => s.length - j) i
   ⟨Nat.le_refl _,hi,rfl⟩ (.cons rfl (.cons rfl (.nil _))) rfl ?_
  rintro j ⟨hij,hj,hN⟩
  have hj : j ≤ s.length:=hj
  refine ab 1000 rfl trivial ?_
  refine S_calle rfl rfl rfl rfl (has_ok v a b xa xb s j o ins out 32 hs) (fun r σ' h => ?_) (fun r σ' h => by cases h.1)
  obtain ⟨h1,rfl⟩:=h
  obtain rfl:=Out.ret.inj h1
  refine ab 1000 rfl trivial ?_
  refine S_cond rfl (fun hb => ?_) (fun hb => ?_)
  ·have hb : s[j]? = some 32:=by simpa using hb
   have hlt : j < s.length:=by
    rcases Nat.lt_or_ge j s.length with h | h
    ·exact h
    ·rw [List.getElem?_eq_none h] at hb; cases hb
   have hb : (s[j] == 32) = true:=by rw [List.getElem?_eq_getElem hlt] at hb; simpa using hb
   refine ab 1000 rfl ⟨Nat.le_of_ble_eq_true rfl,rfl,rfl,trivial⟩ ?_
   refine S_round (j + 1) (by show s.length - (j + 1) < s.length - j; omega) ⟨by omega,hlt,by rw [← hN,gapE,gapE,stopAt_yes hlt hb]⟩ (.cons rfl (.cons rfl (.nil _))) ?_
   show [(v,some (Box.cells [.str s,.int .i64 (IntKind.i64.wrap ((j : Int) + 1)),.int .i64 o,ins,out] _)),_,_] = _
   rw [show AV.int .i64 (IntKind.i64.wrap ((j : Int) + 1)) = .int .i64 ((j + 1 : Nat) : Int) from ai64 rfl (by omega)]; rfl
  ·have hb : s[j]? ≠ some 32:=by simpa using hb
   have hg : gapE s i = j:=by
    rw [← hN,gapE]
    rcases Nat.lt_or_ge j s.length with h | h
    ·exact stopAt_no h (by rw [List.getElem?_eq_getElem h] at hb; simpa using hb)
    ·exact stopAt_end h
   have hgC : gapC s i = if s[j]? = some 35 then stopAt (fun c => !(c == 10)) s j else j:=by rw [gapC,hg]
   rw [hg,hgC]
   have hw : AV.int .i64 (IntKind.i64.wrap ((j : Int) - (i : Int))) = .int .i64 ((j - i : Nat) : Int):=ai64 (by omega) (by omega)
   refine ab 1000 rfl ⟨rfl,trivial⟩ ?_
   refine S_calle rfl rfl rfl rfl (has_ok v a b xa xb s j o ins out 35 hs) (fun r σ' h => ?_) (fun r σ' h => by cases h.1)
   obtain ⟨h1,rfl⟩:=h
   obtain rfl:=Out.ret.inj h1
   refine ab 1000 rfl trivial ?_
   refine S_cond rfl (fun hd => ?_) (fun hd => ?_)
   ·have hd : s[j]? = some 35:=by simpa using hd
    rw [if_pos hd]
    refine ab 1000 rfl trivial ?_
    refine S_while (α:=Nat) (fun m => [(0,.ptr 0 v 0),(4,.int .i64 (j - i : Nat))]) (fun m => [rsB v s m o ins out,(a,some xa),(b,some xb)]) (fun m => m ≤ s.length ∧ stopAt (fun c => !(c == 10)) s m = stopAt (fun c => !(c == 10)) s j) (fun m => s.length - m) j
     ⟨hj,rfl⟩ (.cons rfl (.cons hw (.nil _))) rfl ?_
    rintro m ⟨hm,hM⟩
    have hm : m ≤ s.length:=hm
    refine ab 1000 rfl trivial ?_
    by_cases hml : m < s.length
    ·have c2 : (0 : Int) ≤ (m : Int) ∧ (m : Int) < (s.length : Int):=by omega
     have hgm : (((s.getD (m : Int).toNat 0).toNat : Nat) : Int) = ((s[m].toNat : Nat) : Int):=by rw [Int.toNat_natCast,getD_byte hml]
     refine S_drawV 10 21 [36] [.bool true] rfl rfl rfl rfl ⟨rfl,rfl,rfl,rfl,rfl,rfl,rfl,rfl,rfl,rfl,rfl,rfl,rfl,congrArg AV.bool (decide_eq_true (by omega)),rfl,rfl,rfl,rfl,rfl,rfl,rfl,rfl,rfl,rfl,rfl,c2.1,c2.2,rfl,trivial⟩ ?_
     refine ab 1000 rfl trivial ?_
     refine S_cond rfl (fun he => ?_) (fun he => ?_)
     ·have he : (!(s[m] == 10)) = true:=by
       have h : (!((((s.getD (m : Int).toNat 0).toNat : Nat) : Int) == 10)) = true:=he
       rw [hgm] at h; exact (congrArg not (byte_eq s[m] 10 (by decide))).symm.trans h
      refine ab 1000 rfl ⟨Nat.le_of_ble_eq_true rfl,rfl,rfl,trivial⟩ ?_
      refine S_round (m + 1) (by show s.length - (m + 1) < s.length - m; omega) ⟨hml,by rw [← hM,stopAt_yes hml he]⟩ (.cons rfl (.cons rfl (.nil _))) ?_
      show [(v,some (Box.cells [.str s,.int .i64 (IntKind.i64.wrap ((m : Int) + 1)),.int .i64 o,ins,out] _)),_,_] = _
      rw [show AV.int .i64 (IntKind.i64.wrap ((m : Int) + 1)) = .int .i64 ((m + 1 : Nat) : Int) from ai64 rfl (by omega)]; rfl
     ·have he : (!(s[m] == 10)) = false:=by
       have h : (!((((s.getD (m : Int).toNat 0).toNat : Nat) : Int) == 10)) = false:=he
       rw [hgm] at h; exact (congrArg not (byte_eq s[m] 10 (by decide))).symm.trans h
      rw [← hM,stopAt_no hml he]
      refine ab 1000 rfl trivial ?_
      exact S_ret ⟨_,_,rfl,trivial,rfl,rfl⟩
    ·refine S_drawV 10 21 [36] [.bool false] rfl rfl rfl rfl ⟨rfl,rfl,rfl,rfl,rfl,rfl,rfl,rfl,rfl,rfl,rfl,rfl,rfl,congrArg AV.bool (decide_eq_false (by omega)),trivial⟩ ?_
     refine ab 1000 rfl trivial ?_
     refine S_cond (b:=false) rfl (fun h => by cases h) (fun _ => ?_)
     rw [← hM,stopAt_end (by omega)]
     refine ab 1000 rfl trivial ?_
     exact S_ret ⟨_,_,rfl,trivial,rfl,rfl⟩
   ·have hd : s[j]? ≠ some 35:=by simpa using hd
    rw [if_neg hd]
    refine ab 1000 rfl trivial ?_
    refine S_ret ⟨_,_,rfl,trivial,?_,rfl⟩
    exact congrArg Out.ret hw
theorem rput_ok (v a u : Nat) (xa : Box) (s : List UInt8) (i o : Nat) (ins : AV) (l : List Tok) (k : Nat) (t : List UInt8) (p : Nat) (hl : l.length ≤ 1000000) :
  CallOk cx 62 [.ptr 0 v 0,.int .i64 k,.str t,.int .i64 p] [rsB v s i o ins (.ms 2 u 0 l.length 4 false),(a,some xa),outB u l]
   (fun r σ => r = .ret (.tup []) ∧ σ = [rsB v s i o ins (.ms 2 (u + 1) 0 (l.length + 1) 4 false),(a,some xa),outB (u + 1) (l ++ [⟨k,t,0,p⟩])]) :=
 callOk_intro (fun a w => Tryz.call62 a w) Tryz.func62 rfl Tryz.ntmps62 rfl fun B => by
  have hL:=tokC_len l
  have tk : tokC ⟨k,t,0,p⟩ = [.int .i64 k,.str t,.int .i64 ((0 : Nat) : Int),.int .i64 p]:=rfl
  refine ab 1000 rfl ⟨Nat.le_of_ble_eq_true rfl,rfl,?_,?_,?_,rfl,rfl,allOne_mem (cs:=[.int .i64 k,.str t,.int .i64 0,.int .i64 p]) rfl,allOne_mem (cs:=[.int .i64 k,.str t,.int .i64 0,.int .i64 p]) rfl,rfl,rfl,trivial⟩ ?_
  ·show l.length + 1 ≤ 9223372036854775807; omega
  ·show (l.length + 1) * 40 ≤ 140737488355328; omega
  ·show 0 + l.length * 4 = (l.flatMap tokC).length; omega
  refine S_nil ⟨_,_,rfl,trivial,rfl,?_⟩
  show [rsB v s i o ins (.ms 2 (u + 1) 0 (l.length + 1) 4 false),(a,some xa),(u + 1,some (Box.cells (l.flatMap tokC ++ [.int .i64 k,.str t,.int .i64 0,.int .i64 p]) ⟨false,none⟩))] = _
  rw [outB,List.flatMap_append]
  rfl
theorem HasText_ok {st fl : Bool} (l : List (List UInt8)) (s : List UInt8) (hl : l.length ≤ 9223372036854775806) : Calc cx 96 [.sl st fl 1 (texts l),.str s] (.bool (l.contains s)) :=
 pure_intro (fun a w => Tryz.call96 a w) Tryz.func96 rfl Tryz.ntmps96 rfl .bool fun B => by
  have htl:=texts_len l
  refine ab 1000 rfl trivial ?_
  refine S_while (α:=Nat) (fun i => [(0,.sl st fl 1 (texts l)),(1,.str s),(5,.int .i64 (i : Nat))]) (fun _ => []) (fun i => i ≤ l.length ∧ s ∉ l.take i) (fun i => l.length - i) 0
   ⟨Nat.zero_le _,by simp⟩ (.cons rfl (.cons rfl (.cons rfl (.nil _)))) rfl ?_
  rintro i ⟨hi,hN⟩
  have hi : i ≤ l.length:=hi
  refine ab 1000 rfl trivial ?_
  refine S_dec rfl (fun hlt => ?_) (fun hlt => ?_)
  ·have hil : i < l.length:=by have : (i : Int) < ((texts l).length : Nat):=hlt; omega
   refine ab 1000 rfl trivial ?_
   refine S_index (.str l[i]) rfl rfl rfl ⟨rfl,by omega,by rw [Int.toNat_natCast]; exact texts_get hil,trivial⟩ ?_
   refine ab 1000 rfl trivial ?_
   refine S_cond rfl (fun h => ?_) (fun h => ?_)
   ·have h : l[i] = s:=by simpa using (show (l[i] == s) = true from h)
    refine ab 1000 rfl trivial ?_
    refine S_retc .bool rfl trivial ?_
    rw [List.contains_iff_mem.2 (by rw [← h]; exact List.getElem_mem hil)]; rfl
   ·have h : l[i] ≠ s:=by simpa using (show (l[i] == s) = false from h)
    refine ab 1000 rfl trivial ?_
    refine S_round (i + 1) (by show l.length - (i + 1) < l.length - i; omega) ⟨hil,fun hm => ?_⟩ (.cons rfl (.cons rfl (.cons (ai64 rfl (by omega)) (.nil _)))) rfl
    rw [List.take_succ_eq_append_getElem hil] at hm
    rcases List.mem_append.1 hm with hm | hm
    ·exact hN hm
    ·simp at hm; exact h hm.symm
  ·have hil : i = l.length:=by have : ¬ (i : Int) < ((texts l).length : Nat):=hlt; omega
   rw [hil,List.take_length] at hN
   refine ab 1000 rfl trivial ?_
   refine S_retc .bool rfl trivial ?_
   have : l.contains s = false:=by
    cases h : l.contains s with
    | false => rfl
    | true => exact absurd (List.contains_iff_mem.1 h) hN
   rw [this]; rfl
def ints (l : List Nat) : List AV:=l.map fun n => .int .i64 (n : Nat)
theorem ints_len (l : List Nat) : (ints l).length = l.length:=by simp [ints]
theorem ints_get {l : List Nat} {i : Nat} (h : i < l.length) : (ints l)[i]? = some (.int .i64 (l[i] : Nat)):=by simp [ints,h]
theorem ints_one (l : List Nat) : ∀ x ∈ ints l,x.one = true:=by
 intro x hx; obtain ⟨y,_,rfl⟩:=List.mem_map.1 hx; rfl
theorem ints_free {st : Bool} (l : List Nat) : ∀ x ∈ ints l,Free st x:=by
 intro x hx; obtain ⟨y,_,rfl⟩:=List.mem_map.1 hx; exact .int
def firstOf {α : Type} [DecidableEq α] (l : List α) (x : α) : Int:=match l.idxOf? x with | some i => i | none => -1
theorem firstOf_no {α : Type} [DecidableEq α] {l : List α} {x : α} (h : x ∉ l) : firstOf l x = -1:=by
 unfold firstOf
 rw [List.idxOf?_eq_none_iff.2 h]
theorem firstOf_at {α : Type} [DecidableEq α] {l : List α} {x : α} {i : Nat} (hi : i < l.length) (h : l[i] = x) (hn : x ∉ l.take i) : firstOf l x = i:=by
 unfold firstOf
 have : l.idxOf? x = some i:=by
  rw [List.idxOf?,List.findIdx?_eq_some_iff_getElem]
  refine ⟨hi,by simp [h],fun j hj => ?_⟩
  intro hb
  refine hn ?_
  have : l[j] = x:=by simpa using hb
  rw [← this]
  exact List.mem_take_iff_getElem.2 ⟨j,by omega,rfl⟩
 rw [this]
theorem firstOf_ge {α : Type} [DecidableEq α] {l : List α} {x : α} : (0 ≤ firstOf l x) ↔ x ∈ l:=by
 unfold firstOf
 constructor
 ·intro h
  by_cases hm : x ∈ l
  ·exact hm
  ·rw [List.idxOf?_eq_none_iff.2 hm] at h; simp at h
 ·intro h
  cases hh : l.idxOf? x with
  | none => exact absurd h (List.idxOf?_eq_none_iff.1 hh)
  | some i => simp
theorem IndexI_ok {st fl : Bool} (l : List Nat) (s : Nat) (hl : l.length ≤ 1000000) : Calc cx 108 [.sl st fl 1 (ints l),.int .i64 s] (.int .i64 (firstOf l s)) :=
 pure_intro (fun a w => Tryz.call108 a w) Tryz.func108 rfl Tryz.ntmps108 rfl .int fun B => by
  have htl:=ints_len l
  refine ab 1000 rfl trivial ?_
  refine S_while (α:=Nat) (fun i => [(0,.sl st fl 1 (ints l)),(1,.int .i64 s),(7,.int .i64 (l.length : Nat)),(8,.int .i64 (i : Nat))]) (fun _ => []) (fun i => i ≤ l.length ∧ s ∉ l.take i) (fun i => l.length - i) 0
   ⟨Nat.zero_le _,by simp⟩ (.cons rfl (.cons rfl (.cons (by show AV.int .i64 ((ints l).length : Nat) = _; rw [htl]) (.cons rfl (.nil _))))) rfl ?_
  rintro i ⟨hi,hN⟩
  have hi : i ≤ l.length:=hi
  by_cases hlt : i < l.length
  ·have e1 : (ints l)[(i : Int).toNat]? = some (.int .i64 (l[i] : Nat)):=ints_get hlt
   by_cases he : s = l[i]
   ·refine pB [.b true,.v (.int .i64 (l[i] : Nat)),.b true] rfl ?_
    refine S_retc .int rfl trivial ?_
    rw [firstOf_at hlt he.symm hN]; rfl
   ·refine pB [.b true,.v (.int .i64 (l[i] : Nat)),.b false] rfl ?_
    refine S_round (i + 1) (by show l.length - (i + 1) < l.length - i; omega) ⟨hlt,fun hm => ?_⟩ (.cons rfl (.cons rfl (.cons rfl (.cons (ai64 rfl (by omega)) (.nil _))))) rfl
    rw [List.take_succ_eq_append_getElem hlt] at hm
    rcases List.mem_append.1 hm with hm | hm
    ·exact hN hm
    ·simp at hm; exact he hm
  ·obtain rfl : i = l.length:=by omega
   rw [List.take_length] at hN
   refine pB [.b false] rfl ?_
   refine S_retc .int rfl trivial ?_
   rw [firstOf_no hN]; rfl
theorem ContainsI_ok {st fl : Bool} (l : List Nat) (s : Nat) (hl : l.length ≤ 1000000) : Calc cx 79 [.sl st fl 1 (ints l),.int .i64 s] (.bool (decide (s ∈ l))) :=
 pure_intro (fun a w => Tryz.call79 a w) Tryz.func79 rfl Tryz.ntmps79 rfl .bool fun B => by
  refine pa [.v (.int .i64 (firstOf l s))] rfl ?_ ?_
  ·(repeat' with_reducible apply AllP_cons) <;> try exact aC
   exact ⟨_,IndexI_ok l s hl,.cons (.refl (.sl (fun h => by cases h) (ints_free l))) (.cons (.refl .int) (.nil _))⟩
  refine S_retc .bool rfl trivial ?_
  exact congrArg AV.bool (decide_eq_decide.2 firstOf_ge)
theorem IndexS_ok {st fl : Bool} (l : List (List UInt8)) (s : List UInt8) (hl : l.length ≤ 1000000) : Calc cx 116 [.sl st fl 1 (texts l),.str s] (.int .i64 (firstOf l s)) :=
 pure_intro (fun a w => Tryz.call116 a w) Tryz.func116 rfl Tryz.ntmps116 rfl .int fun B => by
  have htl:=texts_len l
  refine ab 1000 rfl trivial ?_
  refine S_while (α:=Nat) (fun i => [(0,.sl st fl 1 (texts l)),(1,.str s),(7,.int .i64 (l.length : Nat)),(8,.int .i64 (i : Nat))]) (fun _ => []) (fun i => i ≤ l.length ∧ s ∉ l.take i) (fun i => l.length - i) 0
   ⟨Nat.zero_le _,by simp⟩ (.cons rfl (.cons rfl (.cons (by show AV.int .i64 ((texts l).length : Nat) = _; rw [htl]) (.cons rfl (.nil _))))) rfl ?_
  rintro i ⟨hi,hN⟩
  have hi : i ≤ l.length:=hi
  by_cases hlt : i < l.length
  ·have e1 : (texts l)[(i : Int).toNat]? = some (.str l[i]):=texts_get hlt
   by_cases he : s = l[i]
   ·refine pa [.b true,.v (.str l[i]),.b true] rfl ?_ ?_
    ·(repeat' with_reducible apply AllP_cons) <;> try exact aC
     exact beq_iff_eq.2 he
    refine S_retc .int rfl trivial ?_
    rw [firstOf_at hlt he.symm hN]; rfl
   ·refine pa [.b true,.v (.str l[i]),.b false] rfl ?_ ?_
    ·(repeat' with_reducible apply AllP_cons) <;> try exact aC
     exact beq_false_of_ne he
    refine S_round (i + 1) (by show l.length - (i + 1) < l.length - i; omega) ⟨hlt,fun hm => ?_⟩ (.cons rfl (.cons rfl (.cons rfl (.cons (ai64 rfl (by omega)) (.nil _))))) rfl
    rw [List.take_succ_eq_append_getElem hlt] at hm
    rcases List.mem_append.1 hm with hm | hm
    ·exact hN hm
    ·simp at hm; exact he hm
  ·obtain rfl : i = l.length:=by omega
   rw [List.take_length] at hN
   refine pB [.b false] rfl ?_
   refine S_retc .int rfl trivial ?_
   rw [firstOf_no hN]; rfl
theorem ContainsS_ok {st fl : Bool} (l : List (List UInt8)) (s : List UInt8) (hl : l.length ≤ 1000000) : Calc cx 83 [.sl st fl 1 (texts l),.str s] (.bool (decide (s ∈ l))) :=
 pure_intro (fun a w => Tryz.call83 a w) Tryz.func83 rfl Tryz.ntmps83 rfl .bool fun B => by
  refine pa [.v (.int .i64 (firstOf l s))] rfl ?_ ?_
  ·(repeat' with_reducible apply AllP_cons) <;> try exact aC
   exact ⟨_,IndexS_ok l s hl,.cons (.refl (.sl (fun h => by cases h) (texts_any l))) (.cons (.refl .str) (.nil _))⟩
  refine S_retc .bool rfl trivial ?_
  exact congrArg AV.bool (decide_eq_decide.2 firstOf_ge)
def insB (u : Nat) (l : List Nat) : Nat × Option Box:=(u,some (.cells (ints l) ⟨false,none⟩))
def insV (u : Nat) (l : List Nat) : AV:=.ms 1 u 0 l.length 1 false
def outV (w : Nat) (l : List Tok) : AV:=.ms 2 w 0 l.length 4 false
def spH (v u w : Nat) (s : List UInt8) (i o : Nat) (ins : List Nat) (out : List Tok) : Heap:=[spB v s i o (insV u ins) (outV w out),insB u ins,outB w out]
def rsH (v u w : Nat) (s : List UInt8) (i o : Nat) (ins : List Nat) (out : List Tok) : Heap:=[rsB v s i o (insV u ins) (outV w out),insB u ins,outB w out]
theorem ints_take (l : List Nat) (k : Nat) : (ints l).take k = ints (l.take k):=by simp [ints,List.map_take]
theorem ints_app (l : List Nat) (n : Nat) : ints l ++ [.int .i64 (n : Nat)] = ints (l ++ [n]):=by simp [ints]
theorem putH (v u w : Nat) (s : List UInt8) (i o : Nat) (ins : List Nat) (l : List Tok) (k : Nat) (t : List UInt8) (p : Nat) (hl : l.length ≤ 1000000) :
  CallOk cx 78 [.ptr 0 v 0,.int .i64 k,.str t,.int .i64 p] (spH v u w s i o ins l) (fun e σ => e = .ret (.tup []) ∧ σ = spH v u (w + 1) s i o ins (l ++ [⟨k,t,0,p⟩])):=by
 refine (put_ok v u w (.cells (ints ins) ⟨false,none⟩) s i o (insV u ins) l k t p hl).mono fun e σ h => ⟨h.1,h.2.trans ?_⟩
 unfold spH outV insB
 rw [List.length_append]; rfl
theorem rputH (v u w : Nat) (s : List UInt8) (i o : Nat) (ins : List Nat) (l : List Tok) (k : Nat) (t : List UInt8) (p : Nat) (hl : l.length ≤ 1000000) :
  CallOk cx 62 [.ptr 0 v 0,.int .i64 k,.str t,.int .i64 p] (rsH v u w s i o ins l) (fun e σ => e = .ret (.tup []) ∧ σ = rsH v u (w + 1) s i o ins (l ++ [⟨k,t,0,p⟩])):=by
 refine (rput_ok v u w (.cells (ints ins) ⟨false,none⟩) s i o (insV u ins) l k t p hl).mono fun e σ h => ⟨h.1,h.2.trans ?_⟩
 unfold rsH outV insB
 rw [List.length_append]; rfl
theorem putS (v u w : Nat) (s : List UInt8) (i o : Nat) (ins : List Nat) (l : List Tok) (σ : Heap) (hσ : σ = spH v u w s i o ins l) (k : Nat) (t : List UInt8) (p : Nat) (hl : l.length ≤ 1000000) :
  CallOk cx 78 [.ptr 0 v 0,.int .i64 k,.str t,.int .i64 p] σ (fun e σ => e = .ret (.tup []) ∧ σ = spH v u (w + 1) s i o ins (l ++ [⟨k,t,0,p⟩])):=by
 rw [hσ]; exact putH v u w s i o ins l k t p hl
theorem insFz {σ : Heap} {u : Nat} {ins : List Nat} (h : boxAt σ 1 = some (u,ints ins,⟨false,none⟩)) : Frz false σ (insV u ins) (.sl false false 1 (ints ins)) :=
 .ms1 h (ints_one ins) (ints_len ins) (ints_free ins)
def flt (e : Flt) : AV:=.iface 25 (.agg [.int .i64 (e.1 : Nat),.int .i64 (e.2 : Nat)])
theorem failH (v u w : Nat) (s : List UInt8) (i o : Nat) (ins : List Nat) (l : List Tok) (x p : Nat) : CallOk cx 77 [.ptr 0 v 0,.int .i64 x,.int .i64 p] (spH v u w s i o ins l) (fun e σ => e = .panic (flt (x,p)) ∧ σ = spH v u w s i o ins l) :=
 fail_ok _ v x p
theorem back_ok (v u w : Nat) (s : List UInt8) (i o : Nat) (ins : List Nat) (out : List Tok) (n : Nat) (hi : Insok ins) (hl : ins.length ≤ 31) (ho : out.length ≤ 900000) :
  CallOk cx 49 [.ptr 0 v 0,.int .i64 n] (spH v u w s i o ins out)
   (fun e σ => e = .ret (.tup []) ∧ σ = spH v u (w + (ins.length - stay ins n)) s i o (ins.take (stay ins n)) (out ++ List.replicate (ins.length - stay ins n) (tokOut i))) :=
 callOk_intro (fun a w => Tryz.call49 a w) Tryz.func49 rfl Tryz.ntmps49 rfl fun B => by
  have hp:=stay_pos hi n
  have hk:=stay_le ins n
  refine ab 1000 rfl trivial ?_
  refine S_while (α:=Nat × List Nat) (fun _ => [(0,.ptr 0 v 0),(1,.int .i64 n)]) (fun (p,l) => spH v u (w + p) s i o l (out ++ List.replicate p (tokOut i))) (fun (p,l) => p ≤ ins.length - stay ins n ∧ l = ins.take (ins.length - p)) (fun (p,l) => ins.length - p) (0,ins)
   ⟨Nat.zero_le _,by simp⟩ (.cons rfl (.cons rfl (.nil _))) ?_ ?_
  ·show _ = spH v u (w + 0) s i o ins (out ++ List.replicate 0 (tokOut i))
   simp
  rintro ⟨p,l⟩ ⟨h1,rfl⟩
  have h1 : p ≤ ins.length - stay ins n:=h1
  have hlen : (ins.take (ins.length - p)).length = ins.length - p:=by simp
  have hg : (ints (ins.take (ins.length - p)))[ins.length - p - 1]? = some (.int .i64 ((ins[ins.length - p - 1]'(by omega) : Nat))):=by
   rw [ints_get (by omega)]; simp
  by_cases hlt : p < ins.length - stay ins n
  ·have hgt : n < ins[ins.length - p - 1]'(by omega):=stay_out hi n _ (by omega) (by omega)
   have hw : IntKind.i64.wrap (((ins.take (ins.length - p)).length : Nat) - 1) = ((ins.length - p - 1 : Nat) : Int):=by rw [IntWalk.i64_in _ ⟨by omega,by omega⟩]; omega
   refine pa [.v .top,.v (.int .i64 ((ins[ins.length - p - 1]'(by omega) : Nat))),.b true] rfl ?_ ?_
   ·(repeat' with_reducible apply AllP_cons) <;> try exact aC
    show (List.drop (IntKind.i64.wrap (((ins.take (ins.length - p)).length : Nat) - 1)).toNat (ints (ins.take (ins.length - p))))[0]? = _
    rw [hw,Int.toNat_natCast,List.getElem?_drop,Nat.add_zero]; exact hg
   refine S_cut (id:=1) (ins.length - p - 1) rfl ⟨.skip,_,.inr ⟨_,_,_,rfl⟩⟩ ?_
   refine S_heap (spH v u (w + p) s i o (ins.take (ins.length - (p + 1))) (out ++ List.replicate p (tokOut i))) ?_ ?_
   ·have e1 : (ints (ins.take (ins.length - p))).take (ins.length - p - 1) = ints (ins.take (ins.length - (p + 1))):=by rw [ints_take,List.take_take]; congr 2; omega
    have e2 : ((IntKind.i64.wrap (((ins.take (ins.length - p)).length : Nat) - 1)).toNat - 0) = (ins.take (ins.length - (p + 1))).length:=by rw [hw]; simp; omega
    show [spB v s i o (.ms 1 u 0 ((IntKind.i64.wrap (((ins.take (ins.length - p)).length : Nat) - 1)).toNat - 0) 1 false) _,(u,some (Box.cells ((ints (ins.take (ins.length - p))).take (ins.length - p - 1)) _)),_] = _
    rw [e1,e2]; rfl
   refine pa [.c (.tup []) (spH v u (w + p + 1) s i o (ins.take (ins.length - (p + 1))) (out ++ List.replicate p (tokOut i) ++ [tokOut i]))] rfl ?_ ?_
   ·(repeat' with_reducible apply AllP_cons) <;> try exact aC
    exact putH v u (w + p) s i o (ins.take (ins.length - (p + 1))) (out ++ List.replicate p (tokOut i)) 8 [] i (by simp; omega)
   refine S_round (p + 1,ins.take (ins.length - (p + 1))) (by show ins.length - (p + 1) < ins.length - p; omega) ⟨by show p + 1 ≤ ins.length - stay ins n; omega,rfl⟩ (.cons rfl (.cons rfl (.nil _))) ?_
   show spH v u (w + p + 1) s i o (ins.take (ins.length - (p + 1))) (out ++ List.replicate p (tokOut i) ++ [tokOut i]) = spH v u (w + (p + 1)) s i o _ (out ++ List.replicate (p + 1) (tokOut i))
   rw [List.replicate_succ',List.append_assoc]; rfl
  ·obtain rfl : p = ins.length - stay ins n:=by omega
   have e0 : ins.length - (ins.length - stay ins n) = stay ins n:=by omega
   rw [e0]
   have hle : ins[stay ins n - 1]'(by omega) ≤ n:=stay_in n ins _ (by omega) (by omega)
   have hlen : (ins.take (stay ins n)).length = stay ins n:=by simp; omega
   have hw : IntKind.i64.wrap (((ins.take (stay ins n)).length : Nat) - 1) = ((stay ins n - 1 : Nat) : Int):=by rw [IntWalk.i64_in _ ⟨by omega,by omega⟩]; omega
   refine pa [.v .top,.v (.int .i64 ((ins[stay ins n - 1]'(by omega) : Nat))),.b false] rfl ?_ ?_
   ·(repeat' with_reducible apply AllP_cons) <;> try exact aC
    show (List.drop (IntKind.i64.wrap (((ins.take (stay ins n)).length : Nat) - 1)).toNat (ints (ins.take (stay ins n))))[0]? = _
    rw [hw,Int.toNat_natCast,List.getElem?_drop,Nat.add_zero,ints_get (by omega)]; simp
   exact S_nil ⟨_,_,rfl,trivial,rfl,rfl⟩
def spHI (v u w : Nat) (s : List UInt8) (i : Nat) (o : Int) (ins : List Nat) (out : List Tok) : Heap:=[(v,some (.cells [.str s,.int .i64 i,.int .i64 o,insV u ins,outV w out] ⟨false,some 75⟩)),insB u ins,outB w out]
def SpEnd (s : List UInt8) (x : Flt ⊕ (Nat × Nat × List Nat × List Tok)) (v : Nat) : Out → Heap → Prop:=fun e σ => match x with
 | .inl x => e = .panic (flt x) ∧ ∃ v u w i o ins out,σ = spHI v u w s i o ins out
 | .inr (i,o,ins,out) => ∃ u w,e = .ret (.tup []) ∧ σ = spH v u w s i o ins out
def begS (n i o : Nat) (ins : List Nat) (out : List Tok) : Flt ⊕ (Nat × Nat × List Nat × List Tok):=match furS n i ins with
 | .inl x => .inl x
 | .inr (ins',l) => .inr (i,o,ins',out ++ l)
theorem begin_ok (v u w : Nat) (s : List UInt8) (i o : Nat) (ins : List Nat) (out : List Tok) (n : Nat) (hi : Insok ins) (hl : ins.length ≤ 31) (ho : out.length ≤ 900000) :
  CallOk cx 47 [.ptr 0 v 0,.int .i64 n] (spH v u w s i o ins out) (SpEnd s (begS n i o ins out) v) :=
 callOk_intro (fun a w => Tryz.call47 a w) Tryz.func47 rfl Tryz.ntmps47 rfl fun B => by
  have hpos:=hi.pos
  have hw : IntKind.i64.wrap ((ins.length : Nat) - 1) = ((ins.length - 1 : Nat) : Int):=by rw [IntWalk.i64_in _ ⟨by omega,by omega⟩]; omega
  have hel : ins.getD (ins.length - 1) 0 = ins[ins.length - 1]:=by simp [List.getD,List.getElem?_eq_getElem (show ins.length - 1 < ins.length by omega)]
  have hld : (List.drop (IntKind.i64.wrap ((ins.length : Nat) - 1)).toNat (ints ins))[0]? = some (.int .i64 (ins[ins.length - 1] : Nat)):=by
   rw [hw,Int.toNat_natCast,List.getElem?_drop,Nat.add_zero,ints_get (by omega)]
  unfold begS furS
  rw [hel]
  by_cases h1 : ins[ins.length - 1] < n
  ·rw [if_pos h1]
   by_cases h2 : 30 < ins.length
   ·rw [if_pos h2]
    refine pB [.v .top,.v (.int .i64 (ins[ins.length - 1] : Nat)),.b true,.b true] rfl ?_
    exact S_callP rfl rfl rfl (failH v u w s i o ins out 2 i) ⟨rfl,v,u,w,i,o,ins,out,rfl⟩
   ·rw [if_neg h2]
    refine pa [.v .top,.v (.int .i64 (ins[ins.length - 1] : Nat)),.b true,.b false] rfl ?_ ?_
    ·(repeat' with_reducible apply AllP_cons) <;> try exact aC
     ·show 0 + ins.length * 1 = (ints ins).length; rw [ints_len]; omega
     ·show (ins.length + 1) * 8 ≤ 140737488355328; omega
    refine pa [.c (.tup []) (spH v (u + 1) (w + 1) s i o (ins ++ [n]) (out ++ [tokIn i]))] rfl ?_ ?_
    ·(repeat' with_reducible apply AllP_cons) <;> try exact aC
     exact putS v (u + 1) w s i o (ins ++ [n]) out _ (by show [spB v s i o (.ms 1 (u + 1) 0 (ins.length + 1) 1 false) (outV w out),(u + 1,some (Box.cells (ints ins ++ [.int .i64 (n : Nat)]) ⟨false,none⟩)),outB w out] = spH v (u + 1) w s i o (ins ++ [n]) out; rw [ints_app,spH,insV,List.length_append]; rfl) 7 [] i (by omega)
    exact S_nil ⟨_,_,rfl,trivial,_,_,rfl,rfl⟩
  ·rw [if_neg h1]
   by_cases h2 : n ∈ ins
   ·rw [if_pos h2]
    refine pa [.v .top,.v (.int .i64 (ins[ins.length - 1] : Nat)),.b false,.v (.bool (decide (n ∈ ins))),.b false,.c (.tup []) (spH v u (w + (ins.length - stay ins n)) s i o (ins.take (stay ins n)) (out ++ List.replicate (ins.length - stay ins n) (tokOut i)))] rfl ?_ ?_
    ·(repeat' with_reducible apply AllP_cons) <;> try exact aC
     ·exact ⟨_,ContainsI_ok ins n (by omega),.cons (insFz rfl) (.cons (.refl .int) (.nil _))⟩
     ·rw [decide_eq_true h2]; rfl
     ·exact back_ok v u w s i o ins out n hi hl ho
    exact S_nil ⟨_,_,rfl,trivial,_,_,rfl,rfl⟩
   ·rw [if_neg h2]
    refine pa [.v .top,.v (.int .i64 (ins[ins.length - 1] : Nat)),.b false,.v (.bool (decide (n ∈ ins))),.b true] rfl ?_ ?_
    ·(repeat' with_reducible apply AllP_cons) <;> try exact aC
     ·exact ⟨_,ContainsI_ok ins n (by omega),.cons (insFz rfl) (.cons (.refl .int) (.nil _))⟩
     ·rw [decide_eq_false h2]; rfl
    exact S_callP rfl rfl rfl (failH v u w s i o ins out 4 i) ⟨rfl,v,u,w,i,o,ins,out,rfl⟩
def RsEnd (s : List UInt8) (x : Flt ⊕ (Nat × Nat × List Nat × List Tok)) (v : Nat) : Out → Heap → Prop:=fun e σ => match x with
 | .inl x => e = .ret (.int .i64 (x.1 : Nat)) ∧ ∃ u w o ins out,σ = rsH v u w s x.2 o ins out
 | .inr (i,o,ins,out) => ∃ u w,e = .ret (.int .i64 0) ∧ σ = rsH v u w s i o ins out
theorem rputS (v u w : Nat) (s : List UInt8) (i o : Nat) (ins : List Nat) (l : List Tok) (σ : Heap) (hσ : σ = rsH v u w s i o ins l) (k : Nat) (t : List UInt8) (p : Nat) (hl : l.length ≤ 1000000) :
  CallOk cx 62 [.ptr 0 v 0,.int .i64 k,.str t,.int .i64 p] σ (fun e σ => e = .ret (.tup []) ∧ σ = rsH v u (w + 1) s i o ins (l ++ [⟨k,t,0,p⟩])):=by
 rw [hσ]; exact rputH v u w s i o ins l k t p hl
theorem further_ok (v u w : Nat) (s : List UInt8) (i o : Nat) (ins : List Nat) (out : List Tok) (n : Nat) (hi : Insok ins) (hl : ins.length ≤ 31) (ho : out.length ≤ 900000) :
  CallOk cx 59 [.ptr 0 v 0,.int .i64 n] (rsH v u w s i o ins out) (RsEnd s (begS n i o ins out) v) :=
 callOk_intro (fun a w => Tryz.call59 a w) Tryz.func59 rfl Tryz.ntmps59 rfl fun B => by
  have hpos:=hi.pos
  have hp:=stay_pos hi n
  have hk:=stay_le ins n
  have hw : IntKind.i64.wrap ((ins.length : Nat) - 1) = ((ins.length - 1 : Nat) : Int):=by rw [IntWalk.i64_in _ ⟨by omega,by omega⟩]; omega
  have hel : ins.getD (ins.length - 1) 0 = ins[ins.length - 1]:=by simp [List.getD,List.getElem?_eq_getElem (show ins.length - 1 < ins.length by omega)]
  have hld : (List.drop (IntKind.i64.wrap ((ins.length : Nat) - 1)).toNat (ints ins))[0]? = some (.int .i64 (ins[ins.length - 1] : Nat)):=by
   rw [hw,Int.toNat_natCast,List.getElem?_drop,Nat.add_zero,ints_get (by omega)]
  unfold begS furS
  rw [hel]
  by_cases h1 : ins[ins.length - 1] < n
  ·rw [if_pos h1]
   by_cases h2 : 30 < ins.length
   ·rw [if_pos h2]
    refine pB [.v .top,.v (.int .i64 (ins[ins.length - 1] : Nat)),.b true,.b true] rfl ?_
    exact S_ret ⟨_,_,rfl,trivial,rfl,u,w,o,ins,out,rfl⟩
   ·rw [if_neg h2]
    refine pa [.v .top,.v (.int .i64 (ins[ins.length - 1] : Nat)),.b true,.b false] rfl ?_ ?_
    ·(repeat' with_reducible apply AllP_cons) <;> try exact aC
     ·show 0 + ins.length * 1 = (ints ins).length; rw [ints_len]; omega
     ·show (ins.length + 1) * 8 ≤ 140737488355328; omega
    refine pa [.c (.tup []) (rsH v (u + 1) (w + 1) s i o (ins ++ [n]) (out ++ [tokIn i]))] rfl ?_ ?_
    ·(repeat' with_reducible apply AllP_cons) <;> try exact aC
     exact rputS v (u + 1) w s i o (ins ++ [n]) out _ (by show [rsB v s i o (.ms 1 (u + 1) 0 (ins.length + 1) 1 false) (outV w out),(u + 1,some (Box.cells (ints ins ++ [.int .i64 (n : Nat)]) ⟨false,none⟩)),outB w out] = rsH v (u + 1) w s i o (ins ++ [n]) out; rw [ints_app,rsH,insV,List.length_append]; rfl) 7 [] i (by omega)
    exact S_ret ⟨_,_,rfl,trivial,_,_,rfl,rfl⟩
  ·rw [if_neg h1]
   refine pB [.v .top,.v (.int .i64 (ins[ins.length - 1] : Nat)),.b false] rfl ?_
   refine S_while (α:=Nat) (fun j => [(0,.ptr 0 v 0),(1,.int .i64 n),(5,.bool (decide (n ∈ ins.take j))),(6,.int .i64 j)]) (fun j => rsH v u w s i o ins out) (fun j => j ≤ ins.length) (fun j => ins.length - j) 0
    (Nat.zero_le _) (.cons rfl (.cons rfl (.cons rfl (.cons rfl (.nil _))))) rfl ?_
   rintro j hj
   have hj : j ≤ ins.length:=hj
   by_cases hlt : j < ins.length
   ·have htk : ins.take (j + 1) = ins.take j ++ [ins[j]]:=List.take_succ_eq_append_getElem hlt
    by_cases hm : n ∈ ins.take j
    ·refine pB [.b true,.b true] rfl ?_
     refine S_round (j + 1) (by show ins.length - (j + 1) < ins.length - j; omega) hlt (.cons rfl (.cons rfl (.cons ?_ (.cons (ai64 rfl (by omega)) (.nil _))))) rfl
     show AV.bool true = .bool (decide (n ∈ ins.take (j + 1)))
     rw [decide_eq_true]; rw [htk]; exact List.mem_append_left _ hm
    ·have hd : (List.drop j (ints ins))[0]? = some (.int .i64 (ins[j] : Nat)):=by rw [List.getElem?_drop,Nat.add_zero,ints_get hlt]
     refine pB [.b true,.b false,.v .top,.v (.int .i64 (ins[j] : Nat))] rfl ?_
     refine S_round (j + 1) (by show ins.length - (j + 1) < ins.length - j; omega) hlt (.cons rfl (.cons rfl (.cons ?_ (.cons (ai64 rfl (by omega)) (.nil _))))) rfl
     show AV.bool (((ins[j] : Nat) : Int) == (n : Int)) = .bool (decide (n ∈ ins.take (j + 1)))
     congr 1
     rw [Bool.eq_iff_iff,beq_iff_eq,decide_eq_true_iff,htk,List.mem_append,List.mem_singleton]
     constructor
     ·intro h; right; omega
     ·rintro (h | h)
      ·exact absurd h hm
      ·rw [h]
   ·obtain rfl : j = ins.length:=by omega
    rw [List.take_length]
    by_cases h2 : n ∈ ins
    ·rw [if_pos h2]
     have hlast:=stay_last hi h2
     refine pa [.b false,.b false] rfl ?_ ?_
     ·(repeat' with_reducible apply AllP_cons) <;> try exact aC
      rw [decide_eq_true h2]; rfl
     refine S_while (α:=Nat × List Nat) (fun _ => [(0,.ptr 0 v 0),(1,.int .i64 n)]) (fun (p,l) => rsH v u (w + p) s i o l (out ++ List.replicate p (tokOut i))) (fun (p,l) => p ≤ ins.length - stay ins n ∧ l = ins.take (ins.length - p)) (fun (p,l) => ins.length - p) (0,ins)
      ⟨Nat.zero_le _,by simp⟩ (.cons rfl (.cons rfl (.nil _))) ?_ ?_
     ·show rsH v u w s i o ins out = rsH v u (w + 0) s i o ins (out ++ List.replicate 0 (tokOut i))
      simp
     rintro ⟨p,l⟩ ⟨h3,rfl⟩
     have h3 : p ≤ ins.length - stay ins n:=h3
     have hlen : (ins.take (ins.length - p)).length = ins.length - p:=by simp
     have hw : IntKind.i64.wrap (((ins.take (ins.length - p)).length : Nat) - 1) = ((ins.length - p - 1 : Nat) : Int):=by rw [IntWalk.i64_in _ ⟨by omega,by omega⟩]; omega
     have hdr : (List.drop (IntKind.i64.wrap (((ins.take (ins.length - p)).length : Nat) - 1)).toNat (ints (ins.take (ins.length - p))))[0]? = some (.int .i64 (ins[ins.length - p - 1]'(by omega) : Nat)):=by
      rw [hw,Int.toNat_natCast,List.getElem?_drop,Nat.add_zero,ints_get (by omega)]; simp
     by_cases hlt : p < ins.length - stay ins n
     ·have hgt : n < ins[ins.length - p - 1]'(by omega):=stay_out hi n _ (by omega) (by omega)
      refine pa [.v .top,.v (.int .i64 ((ins[ins.length - p - 1]'(by omega) : Nat))),.b true] rfl ?_ ?_
      ·(repeat' with_reducible apply AllP_cons) <;> try exact aC
       exact bne_iff_ne.2 (by omega)
      refine S_cut (id:=1) (ins.length - p - 1) rfl ⟨.skip,_,.inr ⟨_,_,_,rfl⟩⟩ ?_
      refine S_heap (rsH v u (w + p) s i o (ins.take (ins.length - (p + 1))) (out ++ List.replicate p (tokOut i))) ?_ ?_
      ·have e1 : (ints (ins.take (ins.length - p))).take (ins.length - p - 1) = ints (ins.take (ins.length - (p + 1))):=by rw [ints_take,List.take_take]; congr 2; omega
       have e2 : ((IntKind.i64.wrap (((ins.take (ins.length - p)).length : Nat) - 1)).toNat - 0) = (ins.take (ins.length - (p + 1))).length:=by rw [hw]; simp; omega
       show [rsB v s i o (.ms 1 u 0 ((IntKind.i64.wrap (((ins.take (ins.length - p)).length : Nat) - 1)).toNat - 0) 1 false) _,(u,some (Box.cells ((ints (ins.take (ins.length - p))).take (ins.length - p - 1)) _)),_] = _
       rw [e1,e2]; rfl
      refine pa [.c (.tup []) (rsH v u (w + p + 1) s i o (ins.take (ins.length - (p + 1))) (out ++ List.replicate p (tokOut i) ++ [tokOut i]))] rfl ?_ ?_
      ·(repeat' with_reducible apply AllP_cons) <;> try exact aC
       exact rputH v u (w + p) s i o (ins.take (ins.length - (p + 1))) (out ++ List.replicate p (tokOut i)) 8 [] i (by simp; omega)
      refine S_round (p + 1,ins.take (ins.length - (p + 1))) (by show ins.length - (p + 1) < ins.length - p; omega) ⟨by show p + 1 ≤ ins.length - stay ins n; omega,rfl⟩ (.cons rfl (.cons rfl (.nil _))) ?_
      show rsH v u (w + p + 1) s i o (ins.take (ins.length - (p + 1))) (out ++ List.replicate p (tokOut i) ++ [tokOut i]) = rsH v u (w + (p + 1)) s i o _ (out ++ List.replicate (p + 1) (tokOut i))
      rw [List.replicate_succ',List.append_assoc]; rfl
     ·obtain rfl : p = ins.length - stay ins n:=by omega
      have e0 : ins.length - (ins.length - stay ins n) = stay ins n:=by omega
      have hq : ins[ins.length - (ins.length - stay ins n) - 1]'(by omega) = n:=(getElem_congr rfl (by omega) _).trans hlast
      refine pa [.v .top,.v (.int .i64 ((ins[ins.length - (ins.length - stay ins n) - 1]'(by omega) : Nat))),.b false] rfl ?_ ?_
      ·(repeat' with_reducible apply AllP_cons) <;> try exact aC
       rw [hq]; simp
      refine S_ret ⟨_,_,rfl,trivial,u,w + (ins.length - stay ins n),rfl,?_⟩
      show rsH v u (w + (ins.length - stay ins n)) s i o (ins.take (ins.length - (ins.length - stay ins n))) _ = _
      rw [e0]
    ·rw [if_neg h2]
     refine pa [.b false,.b true] rfl ?_ ?_
     ·(repeat' with_reducible apply AllP_cons) <;> try exact aC
      rw [decide_eq_false h2]; rfl
     exact S_ret ⟨_,_,rfl,trivial,rfl,u,w,o,ins,out,rfl⟩
section
section
variable {cx : Cx} {n : Nat} {B : Bs} {k : List AI} {Q : Post} {fr : Fr} {σ : Heap}
theorem S_ext {all : Array Oper} {o : Oper} {l : List Oper} {K : List Nat} {f : FuncId} {args : List AV} {res : AV}
  (hext : ∀ (r : Rl) (w : World) (vs : Array Value),VRels r w vs args → ∃ v,(callFunc f vs).run cx.P w = .ok (.value v) w ∧ VRel r w v res) (hc : callA cx fr o.op = some (f,args)) (hg : guardA all o K fr = some true)
  (hd : dstOk n o.dst = true) (hk : S cx n B (.ops all l K :: k) Q (setA o.dst res fr) σ) : S cx n B (.ops all (o :: l) K :: k) Q fr σ:=by
 refine S_do hg hd (fun r a w hi hf => ?_) hk
 obtain ⟨vs,h1,h2⟩:=callA_go hi hf hc
 obtain ⟨v,h3,h4⟩:=hext r w vs h2
 exact ⟨r,w,v,.inl (by rw [h1,h3]),h4,hi,Ext.refl _ _ _⟩
end
theorem ixb (s : List UInt8) (c : Int) (r : Rl) (w : World) (vs : Array Value) (h : VRels r w vs [.str s,.int .u8 c]) :
  ∃ v,(callFunc 71 vs).run cx.P w = .ok (.value v) w ∧ VRel r w v (.int .i64 (Lib.indexByte s c.toNat.toUInt8)):=by
 obtain ⟨hs,hv⟩:=h
 obtain ⟨x,y,rfl⟩ : ∃ x y,vs = #[x,y]:=by
  rcases vs with ⟨l⟩
  match l,hs with
  | [x,y],_ => exact ⟨x,y,rfl⟩
 have h0:=hv 0 (by simp)
 have h1:=hv 1 (by simp)
 simp only [List.getElem_cons_zero,List.getElem_cons_succ] at h0 h1
 have h0 : VRel r w x (.str s):=h0
 have h1 : VRel r w y (.int .u8 c):=h1
 cases h0 with
 | str h =>
  subst h
  cases h1
  refine ⟨_,?_,.int⟩
  show (callFunc 71 _).run Tryz.prog w = _
  rw [run_callFunc_extern Tryz.func71 rfl rfl rfl (e:=Extern.BytealgIndexByte.indexByte) rfl,Lib.run_indexByteString]
  rfl
theorem indexByteS_ok (s : List UInt8) (c : Int) : Calc cx 41 [.str s,.int .u8 c] (.int .i64 (Lib.indexByte s c.toNat.toUInt8)) :=
 pure_intro (fun a w => Tryz.call41 a w) Tryz.func41 rfl Tryz.ntmps41 rfl .int fun B => by
  refine ab 1000 rfl trivial ?_
  refine S_ext (ixb s c) rfl rfl rfl ?_
  refine ab 1000 rfl trivial ?_
  exact S_retc .int rfl trivial rfl
theorem indexByte_ok (s : List UInt8) (c : Int) : Calc cx 30 [.str s,.int .u8 c] (.int .i64 (Lib.indexByte s c.toNat.toUInt8)) :=
 pure_intro (fun a w => Tryz.call30 a w) Tryz.func30 rfl Tryz.ntmps30 rfl .int fun B => by
  refine ab 1000 rfl trivial ?_
  refine S_pure rfl rfl rfl (indexByteS_ok s c) (.cons (.refl .str) (.cons (.refl .int) (.nil _))) ?_
  refine ab 1000 rfl trivial ?_
  exact S_retc .int rfl trivial rfl
end
end Go.Proofs.YtonjhfeabphaaaaGreatDoor
end
section
namespace Go.Ab
open Go
section
def Cx.at (cx : Cx) (g : Nat) (m : Int) : Cx:={ cx with G:=fun k => bif Nat.beq k g then some [.int .i64 m] else cx.G k }
theorem Globs.at {cx : Cx} {r : Rl} {w : World} {g : Nat} (h : Globs cx r w) (hU : cx.U g = true) : ∃ m,Globs (cx.at g m) r w:=by
 obtain ⟨h1,m,h2⟩:=h.U g hU
 refine ⟨m,fun k cs hk => ?_,h.U,h.X⟩
 have h3 : (bif Nat.beq k g then some [AV.int .i64 m] else cx.G k) = some cs:=hk
 cases hb : Nat.beq k g with
 | true =>
  rw [hb] at h3
  obtain rfl:=Nat.eq_of_beq_eq_true hb
  obtain rfl:=Option.some.inj (show some [AV.int .i64 m] = some cs from h3)
  refine ⟨h1,fun i hi => ?_⟩
  obtain rfl : i = 0:=by simpa using hi
  exact ⟨_,h2,.int,.int⟩
 | false => rw [hb] at h3; exact h.G k cs h3
theorem Globs.un {cx : Cx} {r : Rl} {w : World} {g : Nat} {m : Int} (h : Globs (cx.at g m) r w) (hG : cx.G g = none) : Globs cx r w:=by
 refine ⟨fun k cs hk => h.G k cs ?_,h.U,h.X⟩
 show (bif Nat.beq k g then some [AV.int .i64 m] else cx.G k) = some cs
 cases hb : Nat.beq k g with
 | true => rw [Nat.eq_of_beq_eq_true hb,hG] at hk; cases hk
 | false => exact hk
theorem Inv.cx {cx cx' : Cx} {r : Rl} {σ : Heap} {w : World} (h : Inv cx r σ w) (hg : Globs cx' r w) : Inv cx' r σ w:=⟨h.box,h.lt,h.inj,h.imm,h.Ilt,h.SI,hg⟩
theorem CallOk.ofU {cx : Cx} {f : FuncId} {args : List AV} {σ : Heap} {R : Out → Heap → Prop} (g : Nat) (hU : cx.U g = true) (hG : cx.G g = none) (h : ∀ m,CallOk (cx.at g m) f args σ R) : CallOk cx f args σ R:=by
 refine ⟨(h 0).1,fun r w vs hi hv => ?_⟩
 obtain ⟨m,hm⟩:=hi.glob.at hU
 refine ((h m).2 r w vs (hi.cx hm) hv).mono fun e w' ⟨o,σ',r',h1,h2,h3,h4⟩ => ⟨o,σ',r',h1,h2,h3.cx (h3.glob.un hG),h4⟩
theorem Calc.ofU {cx : Cx} {f : FuncId} {args : List AV} {res : AV} (g : Nat) (hU : cx.U g = true) (hG : cx.G g = none) (h : ∀ m,Calc (cx.at g m) f args res) : Calc cx f args res :=
 ⟨(h 0).free,CallOk.ofU g hU hG fun m => (h m).call⟩
theorem CallOk.at {cx : Cx} {f : FuncId} {args : List AV} {σ : Heap} {R : Out → Heap → Prop} (g : Nat) (m : Int) (hG : cx.G g = none) (h : CallOk cx f args σ R) : CallOk (cx.at g m) f args σ R:=by
 refine ⟨h.1,fun r w vs hi hv => ?_⟩
 refine (h.2 r w vs (hi.cx (hi.glob.un hG)) hv).mono fun e w' ⟨o,σ',r',h1,h2,h3,h4⟩ => ⟨o,σ',r',h1,h2,h3.cx (hi.glob.mono (h4.grow hi) hi.SI),h4⟩
theorem Calc.at {cx : Cx} {f : FuncId} {args : List AV} {res : AV} (g : Nat) (m : Int) (hG : cx.G g = none) (h : Calc cx f args res) : Calc (cx.at g m) f args res:=⟨h.free,h.call.at g m hG⟩
section
variable {cx : Cx} {n : Nat} {B : Bs} {k : List AI} {Q : Post} {fr : Fr} {σ : Heap}
theorem S_extI {all : Array Oper} {o : Oper} {l : List Oper} {K : List Nat} {f : FuncId} {args : List AV} {res : AV}
  (hext : ∀ (r : Rl) (w : World) (vs : Array Value),Globs cx r w → VRels r w vs args → ∃ v,(callFunc f vs).run cx.P w = .ok (.value v) w ∧ VRel r w v res) (hc : callA cx fr o.op = some (f,args)) (hg : guardA all o K fr = some true)
  (hd : dstOk n o.dst = true) (hk : S cx n B (.ops all l K :: k) Q (setA o.dst res fr) σ) : S cx n B (.ops all (o :: l) K :: k) Q fr σ:=by
 refine S_do hg hd (fun r a w hi hf => ?_) hk
 obtain ⟨vs,h1,h2⟩:=callA_go hi hf hc
 obtain ⟨v,h3,h4⟩:=hext r w vs hi.glob h2
 exact ⟨r,w,v,.inl (by rw [h1,h3]),h4,hi,Ext.refl _ _ _⟩
end
end
end Go.Ab
end
section
namespace Go.Proofs.YtonjhfeabphaaaaGreatDoor
open Go Go.Ab
theorem nextLetter_ok (c : UInt8) : Calc cx 111 [.int .u8 (c.toNat : Nat)] (.bool (isLet c || isDg c)) :=
 pure_intro (fun a w => Tryz.call111 a w) Tryz.func111 rfl Tryz.ntmps111 rfl .bool fun B => by
  cases h : isLet c with
  | true =>
   refine pa [.v (.bool (isLet c)),.b true] rfl ?_ ?_
   ·(repeat' with_reducible apply AllP_cons) <;> try exact aC
    exact ⟨_,isLetter_ok c,.cons (.refl .int) (.nil _)⟩
   exact S_retc .bool rfl trivial rfl
  | false =>
   refine pa [.v (.bool (isLet c)),.b false,.v (.bool (isDg c))] rfl ?_ ?_
   ·(repeat' with_reducible apply AllP_cons) <;> try exact aC
    ·exact ⟨_,isLetter_ok c,.cons (.refl .int) (.nil _)⟩
    ·exact ⟨_,isDigit_ok c,.cons (.refl .int) (.nil _)⟩
   exact S_retc .bool rfl trivial rfl
theorem IsSourceWord_ok (s : List UInt8) : Calc cx 93 [.str s] (.bool (decide (s ∈ words14))) :=
 pure_intro (fun a w => Tryz.call93 a w) Tryz.func93 rfl Tryz.ntmps93 rfl .bool fun B => by
  refine pa [.v (.bool (words14.contains s))] rfl ?_ ?_
  ·(repeat' with_reducible apply AllP_cons) <;> try exact aC
   exact ⟨_,HasText_ok words14 s (by decide),.cons (.refl (.sl (fun h => by cases h) (texts_any words14))) (.cons (.refl .str) (.nil _))⟩
  refine S_retc .bool rfl trivial ?_
  exact congrArg AV.bool (by rw [Bool.eq_iff_iff,List.contains_iff_mem,decide_eq_true_iff])
theorem prefix_take {s p : List UInt8} (h : p.length ≤ s.length) : (s.take p.length == p) = p.isPrefixOf s:=by
 rw [Bool.eq_iff_iff,beq_iff_eq,List.isPrefixOf_iff_prefix,List.prefix_iff_eq_take]
 exact ⟨fun h => h.symm,fun h => h.symm⟩
theorem prefix_short {s p : List UInt8} (h : ¬ p.length ≤ s.length) : p.isPrefixOf s = false:=by
 cases hp : p.isPrefixOf s with
 | false => rfl
 | true => exact absurd (List.isPrefixOf_iff_prefix.1 hp).length_le h
theorem HasPrefix2_ok (s p : List UInt8) : Calc cx 132 [.str s,.str p] (.bool (p.isPrefixOf s)) :=
 pure_intro (fun a w => Tryz.call132 a w) Tryz.func132 rfl Tryz.ntmps132 rfl .bool fun B => by
  by_cases h : p.length ≤ s.length
  ·refine pB [.b true] rfl ?_
   refine S_retc .bool rfl trivial ?_
   exact congrArg AV.bool (prefix_take h)
  ·refine pB [.b false] rfl ?_
   refine S_retc .bool rfl trivial ?_
   rw [prefix_short h]; rfl
theorem HasPrefix_ok (s p : List UInt8) : Calc cx 124 [.str s,.str p] (.bool (p.isPrefixOf s)) :=
 pure_intro (fun a w => Tryz.call124 a w) Tryz.func124 rfl Tryz.ntmps124 rfl .bool fun B => by
  refine pa [.v (.bool (p.isPrefixOf s))] rfl ?_ ?_
  ·(repeat' with_reducible apply AllP_cons) <;> try exact aC
   exact ⟨_,HasPrefix2_ok s p,.cons (.refl .str) (.cons (.refl .str) (.nil _))⟩
  exact S_retc .bool rfl trivial rfl
theorem byteBack (c : UInt8) : ((c.toNat : Int).toNat.toUInt8) = c:=by rw [Int.toNat_natCast]; simp
theorem Index1_ok (a : List UInt8) (c : UInt8) (ha : a.length = 3) : Calc cx 141 [.str a,.str [c]] (.int .i64 (Lib.indexByte a c)) :=
 pure_intro (fun a w => Tryz.call141 a w) Tryz.func141 rfl Tryz.ntmps141 rfl .int fun B => by
  obtain ⟨x,y,z,rfl⟩ : ∃ x y z,a = [x,y,z]:=by
   match a,ha with
   | [x,y,z],_ => exact ⟨x,y,z,rfl⟩
  refine pa [.b false,.b false,.b true,.v (.int .i64 (Lib.indexByte [x,y,z] c))] rfl ?_ ?_
  ·(repeat' with_reducible apply AllP_cons) <;> try exact aC
   ·exact beq_false_of_ne (by simp)
   ·have h:=indexByteS_ok [x,y,z] (c.toNat : Int)
    rw [byteBack] at h
    exact ⟨_,h,.cons (.refl .str) (.cons (.refl .int) (.nil _))⟩
  exact S_retc .int rfl trivial rfl
theorem ixs (a b : List UInt8) (m : Int) (h2 : 2 ≤ b.length) (hm : (b.length : Int) ≤ m) (ha : a.length < 4294967281) (r : Rl) (w : World) (vs : Array Value) (hG : Globs (cx.at 0 m) r w) (h : VRels r w vs [.str a,.str b]) :
  ∃ v,(callFunc 148 vs).run cx.P w = .ok (.value v) w ∧ VRel r w v (.int .i64 (Lib.index a b)):=by
 obtain ⟨hs,hv⟩:=h
 obtain ⟨x,y,rfl⟩ : ∃ x y,vs = #[x,y]:=by
  rcases vs with ⟨l⟩
  match l,hs with
  | [x,y],_ => exact ⟨x,y,rfl⟩
 have h0 : VRel r w x (.str a):=hv 0 (by simp)
 have h1 : VRel r w y (.str b):=hv 1 (by simp)
 cases h0 with
 | str h0 =>
  cases h1 with
  | str h1 =>
   rename_i s t
   subst h0; subst h1
   obtain ⟨_,hc⟩:=hG.G 0 [.int .i64 m] rfl
   obtain ⟨v,hc1,hc2,_⟩:=hc 0 (by simp)
   cases hc2
   refine ⟨_,?_,.int⟩
   show (callFunc 148 _).run Tryz.prog w = _
   rw [run_callFunc_extern Tryz.func148 rfl rfl rfl (e:=Extern.BytealgIndex.index) rfl]
   rw [Lib.run_indexString s t w 0 m (by kernel_rfl) hc1 (by simpa using h2) (by simpa using hm) (by simpa using ha)]
   rfl
theorem Index2_ok (a : List UInt8) (c d : UInt8) (ha : a.length = 3) (hc : c ∉ a) : Calc cx 141 [.str a,.str [c,d]] (.int .i64 (-1)):=by
 refine Calc.ofU 0 rfl rfl fun m => pure_intro (fun a w => Tryz.call141 a w) Tryz.func141 rfl Tryz.ntmps141 rfl .int fun B => ?_
 obtain ⟨x,y,z,rfl⟩ : ∃ x y z,a = [x,y,z]:=by
  match a,ha with
  | [x,y,z],_ => exact ⟨x,y,z,rfl⟩
 simp only [List.mem_cons,List.not_mem_nil,or_false,not_or] at hc
 obtain ⟨n1,n2,n3⟩:=hc
 by_cases hm : 2 ≤ m
 ·refine pa [.b false,.b false,.b false,.b false,.b true,.b true] rfl ?_ ?_
  ·(repeat' with_reducible apply AllP_cons) <;> try exact aC
   ·exact beq_false_of_ne (by simp)
  refine S_extI (ixs [x,y,z] [c,d] m (by simp) (by simpa using hm) (by simp)) rfl rfl rfl ?_
  refine ab 1000 rfl trivial ?_
  refine S_retc .int rfl trivial ?_
  have : Lib.index [x,y,z] [c,d] = -1:=by simp [Lib.index,n1,n2,n3]
  rw [this]; rfl
 ·refine pa [.b false,.b false,.b false,.b false,.b false,.b false] rfl ?_ ?_
  ·(repeat' with_reducible apply AllP_cons) <;> try exact aC
   ·exact beq_false_of_ne (by simp)
  refine S_while (α:=Unit) (fun _ => [(0,.str [x,y,z]),(1,.str [c,d]),(6,.int .u8 (c.toNat : Nat)),(8,.int .i64 0),(9,.int .i64 2)]) (fun _ => []) (fun _ => True) (fun _ => 0) ()
   trivial (.cons rfl (.cons rfl (.cons rfl (.cons rfl (.cons rfl (.nil _)))))) rfl ?_
  rintro _ _
  refine pa [.b true,.b true,.v (.int .i64 (-1)),.b true] rfl ?_ ?_
  ·(repeat' with_reducible apply AllP_cons) <;> try exact aC
   ·exact bne_iff_ne.2 (fun h => n1 (UInt8.toNat_inj.1 (Int.ofNat.inj h)).symm)
   ·have h:=(indexByteS_ok [y] (c.toNat : Int)).at 0 m rfl
    rw [byteBack,show Lib.indexByte [y] c = -1 by simp [Lib.indexByte,Ne.symm n2]] at h
    exact ⟨_,h,.cons (.refl .str) (.cons (.refl .int) (.nil _))⟩
  exact S_retc .int rfl trivial rfl
theorem two_none : ∀ t ∈ signs18,t.length = 2 → ∃ c d,t = [c,d] ∧ c ∉ ([40,91,123] : List UInt8) ∧ c ∉ ([41,93,125] : List UInt8):=by
 intro t ht h
 simp only [signs18,List.mem_cons,List.not_mem_nil,or_false] at ht
 rcases ht with rfl | rfl | rfl | rfl | rfl | rfl | rfl | rfl | rfl | rfl | rfl | rfl | rfl | rfl | rfl | rfl | rfl | rfl <;> first | (simp at h; done) | exact ⟨_,_,rfl,by decide,by decide⟩
theorem one_or_two : ∀ t ∈ signs18,t.length = 2 ∨ ∃ c,t = [c]:=by
 intro t ht
 simp only [signs18,List.mem_cons,List.not_mem_nil,or_false] at ht
 rcases ht with rfl | rfl | rfl | rfl | rfl | rfl | rfl | rfl | rfl | rfl | rfl | rfl | rfl | rfl | rfl | rfl | rfl | rfl <;> first | exact .inl rfl | exact .inr ⟨_,rfl⟩
theorem Contains_ok (a : List UInt8) (t : List UInt8) (ha : a.length = 3) (h2 : t.length = 2 → ∃ c d,t = [c,d] ∧ c ∉ a) (h1 : t.length = 2 ∨ ∃ c,t = [c]) :
  Calc cx 125 [.str a,.str t] (.bool (decide (t ∈ a.map ([·])))):=by
 have key : ∃ i : Int,Calc cx 141 [.str a,.str t] (.int .i64 i) ∧ (0 ≤ i ↔ t ∈ a.map ([·])):=by
  rcases h1 with h | ⟨c,rfl⟩
  ·obtain ⟨c,d,rfl,hc⟩:=h2 h
   refine ⟨-1,Index2_ok a c d ha hc,by simp⟩
  ·refine ⟨_,Index1_ok a c ha,?_⟩
   match a,ha with
   | [x,y,z],_ =>
    simp only [Lib.indexByte,List.map_cons,List.map_nil,List.mem_cons,List.not_mem_nil,or_false,List.cons.injEq,and_true]
    by_cases h1 : x = c
    ·simp [h1]
    ·by_cases h2 : y = c
     ·simp [h1,h2]
     ·by_cases h3 : z = c
      ·simp [h1,h2,h3]
      ·simp [h1,h2,h3,Ne.symm h1,Ne.symm h2,Ne.symm h3]
 obtain ⟨i,hi,hiff⟩:=key
 have hI : Calc cx 133 [.str a,.str t] (.int .i64 i):=pure_intro (fun a w => Tryz.call133 a w) Tryz.func133 rfl Tryz.ntmps133 rfl .int fun B => by
  refine pa [.v (.int .i64 i)] rfl ?_ ?_
  ·(repeat' with_reducible apply AllP_cons) <;> try exact aC
   exact ⟨_,hi,.cons (.refl .str) (.cons (.refl .str) (.nil _))⟩
  exact S_retc .int rfl trivial rfl
 exact pure_intro (fun a w => Tryz.call125 a w) Tryz.func125 rfl Tryz.ntmps125 rfl .bool fun B => by
  refine pa [.v (.int .i64 i)] rfl ?_ ?_
  ·(repeat' with_reducible apply AllP_cons) <;> try exact aC
   exact ⟨_,hI,.cons (.refl .str) (.cons (.refl .str) (.nil _))⟩
  refine S_retc .bool rfl trivial ?_
  exact congrArg AV.bool (decide_eq_decide.2 hiff)
def two4 : List (List UInt8):=[[61,61],[33,61],[60,61],[47,47]]
def one14 : List UInt8:=[61,60,43,45,42,37,40,41,91,93,123,125,44,58]
theorem find_two (l : List UInt8) : ∀ (gs : List (List UInt8)),(∀ g ∈ gs,g.length = 2) → gs.find? (fun g => g.isPrefixOf l) = if l.take 2 ∈ gs then some (l.take 2) else none
 | [],_ => rfl
 | g :: gs,h => by
  have ih:=find_two l gs (fun x hx => h x (List.mem_cons_of_mem _ hx))
  have hg:=h g (List.mem_cons_self ..)
  rw [List.find?_cons]
  cases hp : g.isPrefixOf l with
  | true =>
   have he : g = l.take 2:=by rw [← hg]; exact List.prefix_iff_eq_take.1 (List.isPrefixOf_iff_prefix.1 hp)
   rw [if_pos (by rw [← he]; exact List.mem_cons_self ..)]
   exact congrArg some he
  | false =>
   have hne : l.take 2 ≠ g:=fun he => by
    have : g <+: l:=by rw [← he]; exact List.take_prefix _ _
    rw [List.isPrefixOf_iff_prefix.2 this] at hp; cases hp
   simp only [ih,List.mem_cons,hne,false_or]
theorem find_one (c : UInt8) (l : List UInt8) : ∀ (gs : List UInt8),(gs.map ([·])).find? (fun g => g.isPrefixOf (c :: l)) = if c ∈ gs then some [c] else none
 | [] => rfl
 | g :: gs => by
  have ih:=find_one c l gs
  rw [List.map_cons,List.find?_cons]
  by_cases h : g = c
  ·subst h; simp [List.isPrefixOf]
  ·have : ([g] : List UInt8).isPrefixOf (c :: l) = false:=by simp [List.isPrefixOf,h]
   rw [this]
   simp only [ih,List.mem_cons,Ne.symm h,false_or]
theorem signAt_eq {s : List UInt8} {i : Nat} (hi : i < s.length) : signAt s i = if (s.drop i).take 2 ∈ two4 then some ((s.drop i).take 2) else if s[i] ∈ one14 then some [s[i]] else none:=by
 have e : signs18 = two4 ++ one14.map ([·]):=rfl
 rw [signAt,e,List.find?_append,find_two _ two4 (by decide),List.drop_eq_getElem_cons hi,find_one]
 split <;> simp
theorem SignAt_ok (s : List UInt8) (i : Nat) (hi : i < s.length) (hs : s.length ≤ 1048576) : Calc cx 95 [.str s,.int .i64 i] (.str ((signAt s i).getD [])) :=
 pure_intro (fun a w => Tryz.call95 a w) Tryz.func95 rfl Tryz.ntmps95 rfl .str fun B => by
  rw [signAt_eq hi]
  have hw1 : IntKind.i64.wrap ((i : Nat) + 1) = ((i + 1 : Nat) : Int):=by rw [IntWalk.i64_in _ ⟨by omega,by omega⟩]; omega
  have hw2 : IntKind.i64.wrap ((i : Nat) + 2) = ((i + 2 : Nat) : Int):=by rw [IntWalk.i64_in _ ⟨by omega,by omega⟩]; omega
  have hcut : (s.take (i + 2)).drop i = (s.drop i).take 2:=by rw [List.drop_take]; congr 1; omega
  refine ab 1000 rfl trivial ?_
  refine S_while (α:=Nat) (fun j => [(0,.str s),(1,.int .i64 i),(5,.sl true true 1 (texts two4)),(6,.int .i64 j)]) (fun _ => []) (fun j => j ≤ 4 ∧ (s.drop i).take 2 ∉ two4.take j) (fun j => 4 - j) 0
   ⟨Nat.zero_le _,by simp⟩ (.cons rfl (.cons rfl (.cons rfl (.cons rfl (.nil _))))) rfl ?_
  rintro j ⟨hj,hN⟩
  have hj : j ≤ 4:=hj
  have hi' : (0 : Int) ≤ (i : Int) ∧ (i : Int) < (s.length : Int):=by omega
  have htl : (texts two4).length = 4:=rfl
  by_cases hlt : j < 4 ∧ i + 1 < s.length
  ·obtain ⟨hlt,hi2⟩:=hlt
   have hg : (texts two4)[(j : Int).toNat]? = some (.str (two4[j]'hlt)):=texts_get (l:=two4) hlt
   have hd : decide ((j : Int) < (((texts two4).length : Nat) : Int)) = true:=decide_eq_true (by rw [htl]; omega)
   have hcc : cutL (some (i : Int)) (some (IntKind.i64.wrap ((i : Nat) + 2))) s = (s.drop i).take 2:=by
    rw [hw2]; show (s.take ((i + 2 : Nat) : Int).toNat).drop (i : Int).toNat = _
    rw [Int.toNat_natCast,Int.toNat_natCast,hcut]
   by_cases he : (s.drop i).take 2 = two4[j]'hlt
   ·rw [if_pos (by rw [he]; exact List.getElem_mem _)]
    refine pa [.b true,.b true,.v (.str (two4[j]'hlt)),.b true,.v (.str (two4[j]'hlt))] rfl ?_ ?_
    ·(repeat' with_reducible apply AllP_cons) <;> try exact aC
     rw [hcc,he]; simp
    exact S_retc .str rfl trivial (by rw [he]; rfl)
   ·refine pa [.b true,.b true,.v (.str (two4[j]'hlt)),.b false] rfl ?_ ?_
    ·(repeat' with_reducible apply AllP_cons) <;> try exact aC
     rw [hcc]; exact beq_false_of_ne he
    refine S_round (j + 1) (by show 4 - (j + 1) < 4 - j; omega) ⟨hlt,fun hm => ?_⟩ (.cons rfl (.cons rfl (.cons rfl (.cons (ai64 rfl (by omega)) (.nil _))))) rfl
    rw [List.take_succ_eq_append_getElem (show j < two4.length from hlt)] at hm
    rcases List.mem_append.1 hm with hm | hm
    ·exact hN hm
    ·simp at hm; exact he hm
  ·have hno : (s.drop i).take 2 ∉ two4:=by
    intro hm
    by_cases h4 : j = 4
    ·rw [h4] at hN; exact hN hm
    ·have hl : ∀ g ∈ two4,g.length = 2:=by decide
     have:=hl _ hm
     rw [List.length_take,List.length_drop] at this
     omega
   rw [if_neg hno]
   refine' S_share [(0,.str s),(1,.int .i64 i),(7,.str one14),(8,.int .i64 0)] [] (fun cont => ?main) ?rest
   case main =>
    by_cases h4 : j < 4
    ·refine pB [.b true,.b false] rfl ?_
     exact cont _ (.cons rfl (.cons rfl (.cons rfl (.cons rfl (.nil _)))))
    ·refine pB [.b false,.b false] rfl ?_
     exact cont _ (.cons rfl (.cons rfl (.cons rfl (.cons rfl (.nil _)))))
   case rest =>
    clear hN hlt hj
    refine S_while (α:=Nat) (fun j => [(0,.str s),(1,.int .i64 i),(7,.str one14),(8,.int .i64 j)]) (fun _ => []) (fun j => j ≤ 14 ∧ s[i] ∉ one14.take j) (fun j => 14 - j) 0
     ⟨Nat.zero_le _,by simp⟩ (.cons rfl (.cons rfl (.cons rfl (.cons rfl (.nil _))))) rfl ?_
    rintro j ⟨hj,hN⟩
    have hj : j ≤ 14:=hj
    have hol : one14.length = 14:=rfl
    have hgc : (((s.getD (i : Int).toNat 0).toNat : Nat) : Int) = ((s[i].toNat : Nat) : Int):=by rw [Int.toNat_natCast,getD_byte hi]
    by_cases hlt : j < 14
    ·have hgo : (((one14.getD (j : Int).toNat 0).toNat : Nat) : Int) = (((one14[j]'hlt).toNat : Nat) : Int):=by rw [Int.toNat_natCast,getD_byte (s:=one14) hlt]
     by_cases he : s[i] = one14[j]'hlt
     ·rw [if_pos (by rw [he]; exact List.getElem_mem _)]
      refine pa [.b true,.b true] rfl ?_ ?_
      ·(repeat' with_reducible apply AllP_cons) <;> try exact aC
       ·rw [hgc,hgo,he]; exact beq_self_eq_true _
      refine S_retc .str rfl trivial ?_
      show AV.str ((s.take (IntKind.i64.wrap ((i : Nat) + 1)).toNat).drop (i : Int).toNat) = .str [s[i]]
      rw [hw1,Int.toNat_natCast,Int.toNat_natCast,List.drop_take,Nat.add_sub_cancel_left,List.drop_eq_getElem_cons hi]; rfl
     ·refine pa [.b true,.b false] rfl ?_ ?_
      ·(repeat' with_reducible apply AllP_cons) <;> try exact aC
       ·rw [hgc,hgo]; exact beq_false_of_ne (fun h => he (UInt8.toNat_inj.1 (by omega)))
      refine S_round (j + 1) (by show 14 - (j + 1) < 14 - j; omega) ⟨hlt,fun hm => ?_⟩ (.cons rfl (.cons rfl (.cons rfl (.cons (ai64 rfl (by omega)) (.nil _))))) rfl
      rw [List.take_succ_eq_append_getElem (show j < one14.length from hlt)] at hm
      rcases List.mem_append.1 hm with hm | hm
      ·exact hN hm
      ·simp at hm; exact he hm
    ·have h14 : j = 14:=by omega
     have hN : s[i] ∉ one14:=by rw [h14] at hN; exact hN
     rw [if_neg hN]
     refine pB [.b false] rfl ?_
     exact S_retc .str rfl trivial rfl
def firstF (l : List (List UInt8)) (P : List UInt8 → Bool) : Int:=match l.findIdx? P with | some i => i | none => -1
theorem IndexFunc_ok {st fl : Bool} {σ : Heap} (F : FuncId) (caps : List AV) (P : List UInt8 → Bool) (l : List (List UInt8)) (hl : l.length ≤ 1000000) (hF : ∀ x,CallOk cx F (.str x :: caps) σ (fun e s => e = .ret (.bool (P x)) ∧ s = σ)) :
  CallOk cx 117 [.sl st fl 1 (texts l),.func (.func F) [] caps] σ (fun e s => e = .ret (.int .i64 (firstF l P)) ∧ s = σ) :=
 callOk_intro (fun a w => Tryz.call117 a w) Tryz.func117 rfl Tryz.ntmps117 rfl fun B => by
  have htl:=texts_len l
  refine pB [] rfl ?_
  refine S_while (α:=Nat) (fun i => [(0,.sl st fl 1 (texts l)),(1,.func (.func F) [] caps),(7,.int .i64 (l.length : Nat)),(8,.int .i64 (i : Nat))]) (fun _ => σ) (fun i => i ≤ l.length ∧ ∀ x ∈ l.take i,P x = false) (fun i => l.length - i) 0
   ⟨Nat.zero_le _,by simp⟩ (.cons rfl (.cons rfl (.cons (by show AV.int .i64 ((texts l).length : Nat) = _; rw [htl]) (.cons rfl (.nil _))))) rfl ?_
  rintro i ⟨hi,hN⟩
  have hi : i ≤ l.length:=hi
  by_cases hlt : i < l.length
  ·have e1 : (texts l)[(i : Int).toNat]? = some (.str l[i]):=texts_get hlt
   cases hp : P l[i] with
   | true =>
    refine pa [.b true,.v (.str l[i]),.k (.bool true),.b true] rfl ?_ ?_
    ·(repeat' with_reducible apply AllP_cons) <;> try exact aC
     have:=hF l[i]; rw [hp] at this; exact this
    refine S_ret ⟨_,_,rfl,trivial,?_,rfl⟩
    have : l.findIdx? P = some i:=List.findIdx?_eq_some_iff_getElem.2 ⟨hlt,hp,fun j hj => by
     rw [hN _ (List.mem_take_iff_getElem.2 ⟨j,by omega,rfl⟩)]; decide⟩
    rw [firstF,this]; rfl
   | false =>
    refine pa [.b true,.v (.str l[i]),.k (.bool false),.b false] rfl ?_ ?_
    ·(repeat' with_reducible apply AllP_cons) <;> try exact aC
     have:=hF l[i]; rw [hp] at this; exact this
    refine S_round (i + 1) (by show l.length - (i + 1) < l.length - i; omega) ⟨hlt,fun x hm => ?_⟩ (.cons rfl (.cons rfl (.cons rfl (.cons (ai64 rfl (by omega)) (.nil _))))) rfl
    rw [List.take_succ_eq_append_getElem hlt] at hm
    rcases List.mem_append.1 hm with hm | hm
    ·exact hN x hm
    ·simp at hm; rw [hm]; exact hp
  ·obtain rfl : i = l.length:=by omega
   rw [List.take_length] at hN
   refine pB [.b false] rfl ?_
   refine S_ret ⟨_,_,rfl,trivial,?_,rfl⟩
   have : l.findIdx? P = none:=List.findIdx?_eq_none_iff.2 (fun x hx => by rw [hN x hx])
   rw [firstF,this]; rfl
def spS (v u w q : Nat) (s : List UInt8) (i o : Nat) (ins : List Nat) (out : List Tok) : Heap:=[spB v s i o (insV u ins) (outV w out),insB u ins,outB w out,(q,some (.cells [.ptr 0 v 0] ⟨false,none⟩))]
def spSI (v u w q : Nat) (s : List UInt8) (i o : Int) (ins : List Nat) (out : List Tok) : Heap:=[(v,some (.cells [.str s,.int .i64 i,.int .i64 o,insV u ins,outV w out] ⟨false,some 75⟩)),insB u ins,outB w out,(q,some (.cells [.ptr 0 v 0] ⟨false,none⟩))]
theorem signF_ok (v u w q : Nat) (s : List UInt8) (i o : Nat) (ins : List Nat) (out : List Tok) (x : List UInt8) (hi : i ≤ s.length) :
  CallOk cx 123 [.str x,.ptr 3 q 0] (spS v u w q s i o ins out) (fun e σ => e = .ret (.bool (x.isPrefixOf (s.drop i))) ∧ σ = spS v u w q s i o ins out) :=
 callOk_intro (fun a w => Tryz.call123 a w) Tryz.func123 rfl Tryz.ntmps123 rfl fun B => by
  refine pa [.v (.bool (x.isPrefixOf (s.drop i)))] rfl ?_ ?_
  ·(repeat' with_reducible apply AllP_cons) <;> try exact aC
   exact ⟨_,HasPrefix_ok (s.drop i) x,.cons (.refl .str) (.cons (.refl .str) (.nil _))⟩
  exact S_ret ⟨_,_,rfl,trivial,rfl,rfl⟩
theorem firstF_find {l : List (List UInt8)} {P : List UInt8 → Bool} : (l.find? P = none ∧ firstF l P = -1) ∨ ∃ (i : Nat) (h : i < l.length),l.find? P = some l[i] ∧ firstF l P = i:=by
 cases hf : l.findIdx? P with
 | none =>
  left
  refine ⟨?_,by rw [firstF,hf]⟩
  rw [List.findIdx?_eq_none_iff] at hf
  exact List.find?_eq_none.2 (fun x hx => by rw [hf x hx]; decide)
 | some i =>
  right
  obtain ⟨h1,h2,h3⟩:=List.findIdx?_eq_some_iff_getElem.1 hf
  refine ⟨i,h1,?_,by rw [firstF,hf]⟩
  rw [List.find?_eq_some_iff_getElem]
  exact ⟨h2,i,h1,rfl,fun j hj => by simpa using h3 j hj⟩
def sgnS (s : List UInt8) (i o : Nat) : Flt ⊕ (Tok × Nat × Nat):=match signAt s i with
 | none => .inl (1,i)
 | some t =>
  if t ∈ opens then (if 30 ≤ o then .inl (2,i) else .inr (⟨4,t,0,i⟩,i + t.length,o + 1))
  else if t ∈ closes then (if o = 0 then .inl (1,i) else .inr (⟨4,t,0,i⟩,i + t.length,o - 1))
  else .inr (⟨4,t,0,i⟩,i + t.length,o)
def endS (x : Flt ⊕ (Tok × Nat × Nat)) (ins : List Nat) (out : List Tok) : Flt ⊕ (Nat × Nat × List Nat × List Tok):=match x with
 | .inl e => .inl e
 | .inr (t,j,o) => .inr (j,o,ins,out ++ [t])
theorem opens_eq : opens = ([40,91,123] : List UInt8).map ([·]):=rfl
theorem closes_eq : closes = ([41,93,125] : List UInt8).map ([·]):=rfl
theorem spH_rn (v u w : Nat) (s : List UInt8) (i o : Nat) (ins : List Nat) (out : List Tok) : RnH (List.range 3) (spH v u w s i o ins out) (spH v u w s i o ins out):=by
 have ht : ∀ x ∈ out.flatMap tokC,Free false x:=by
  intro x hx
  obtain ⟨t,_,ht⟩:=List.mem_flatMap.1 hx
  simp only [tokC,List.mem_cons,List.not_mem_nil,or_false] at ht
  rcases ht with rfl | rfl | rfl | rfl
  ·exact .int
  ·exact .str
  ·exact .int
  ·exact .int
 exact .cons (.live (.cells (.cons (.free .str) (.cons (.free .int) (.cons (.free .int) (.cons (.ms rfl) (.cons (.ms rfl) (.nil _)))))))) (.cons (.live (.cells (.free (ints_free ins)))) (.cons (.live (.cells (.free ht))) (.nil _)))
theorem spH_low (v u w : Nat) (s : List UInt8) (i o : Nat) (ins : List Nat) (out : List Tok) (τ : Heap) : LowH 3 (spH v u w s i o ins out ++ τ):=by
 refine .of fun e he x hx => ?_
 have he : e ∈ spH v u w s i o ins out:=he
 simp only [spH,List.mem_cons,List.not_mem_nil,or_false] at he
 rcases he with rfl | rfl | rfl
 ·cases hx
  refine .cells fun y hy => ?_
  simp only [List.mem_cons,List.not_mem_nil,or_false] at hy
  rcases hy with rfl | rfl | rfl | rfl | rfl
  ·exact .str
  ·exact .int
  ·exact .int
  ·exact .ms (by decide)
  ·exact .ms (by decide)
 ·cases hx
  exact .cells fun y hy => Low.free (ints_free (st:=false) ins y hy)
 ·cases hx
  refine .cells fun y hy => ?_
  obtain ⟨t,_,ht⟩:=List.mem_flatMap.1 hy
  simp only [tokC,List.mem_cons,List.not_mem_nil,or_false] at ht
  rcases ht with rfl | rfl | rfl | rfl
  ·exact .int
  ·exact .str
  ·exact .int
  ·exact .int
theorem sign_ok (v u w : Nat) (s : List UInt8) (i o : Nat) (ins : List Nat) (out : List Tok) (hi : i < s.length) (hs : s.length ≤ 1048576) (ho : o ≤ 1000) (hl : out.length ≤ 900000) :
  CallOk cx 114 [.ptr 0 v 0] (spH v u w s i o ins out) (SpEnd s (endS (sgnS s i o) ins out) v) :=
 callOk_introT (fun a w => Tryz.call114 a w) Tryz.func114 rfl Tryz.ntmps114 rfl fun B => by
  have hx:=IndexFunc_ok (st:=true) (fl:=false) 123 [.ptr 3 0 0] (fun x => x.isPrefixOf (s.drop i)) signs18 (by decide) (fun x => signF_ok v u w 0 s i o ins out x (by omega))
  have put4 : ∀ (j o' : Nat) (t : List UInt8),CallOk cx 78 [.ptr 0 v 0,.int .i64 (4 : Nat),.str t,.int .i64 j] (spS v u w 0 s j o' ins out) (fun e σ => e = .ret (.tup []) ∧ σ = spS v u (w + 1) 0 s j o' ins (out ++ [⟨4,t,0,j⟩])):=fun j o' t =>
   (putH v u w s j o' ins out 4 t j (by omega)).pre1 3 [(0,some (.cells [.ptr 0 v 0] ⟨false,none⟩))] rfl rfl (.cons (.ptr rfl) (.free (by intro x hx; simp at hx; rcases hx with rfl | rfl | rfl; exact .int; exact .str; exact .int))) (spH_rn ..) (spH_rn ..) (.free (.tup (by simp)))
  have lowF : ∀ e : Flt,Low 3 (flt e):=fun e => .iface (.agg (by intro x hx; simp at hx; rcases hx with rfl | rfl; exact .int; exact .int))
  have lowT : FzT 3 (spS v u w 0 s i o ins out) (.tup []) (.tup []):=.low (.tup (by simp))
  unfold sgnS signAt
  rcases firstF_find (l:=signs18) (P:=fun x => x.isPrefixOf (s.drop i)) with ⟨h1,h2⟩ | ⟨j,hj,h1,h2⟩
  ·rw [h1]
   rw [h2] at hx
   refine pB [.k (.int .i64 (-1)),.b true] rfl ?_
   exact S_callP rfl rfl rfl (fail_ok _ v 1 i) ⟨3,Nat.le_refl _,spH_low v u w s i o ins out [(0,some (.cells [.ptr 0 v 0] ⟨false,none⟩))],lowF (1,i),rfl,v,u,w,i,o,ins,out,rfl⟩
  ·rw [h1]
   rw [h2] at hx
   obtain ⟨t,ht⟩ : ∃ t,t = signs18[j]:=⟨_,rfl⟩
   rw [← ht]
   have htm : t ∈ signs18:=by rw [ht]; exact List.getElem_mem hj
   have hget : (signs18.map AV.str)[(j : Int).toNat]? = some (.str t):=by rw [Int.toNat_natCast,ht]; simp [hj]
   have htl : 1 ≤ t.length ∧ t.length ≤ 2:=(by decide : ∀ g ∈ signs18,1 ≤ g.length ∧ g.length ≤ 2) t htm
   have cO:=Contains_ok [40,91,123] t rfl (fun h => by obtain ⟨c,d,h1,h2,h3⟩:=two_none t htm h; exact ⟨c,d,h1,h2⟩) (one_or_two t htm)
   have cC:=Contains_ok [41,93,125] t rfl (fun h => by obtain ⟨c,d,h1,h2,h3⟩:=two_none t htm h; exact ⟨c,d,h1,h3⟩) (one_or_two t htm)
   rw [← opens_eq] at cO
   rw [← closes_eq] at cC
   have hfr : Frzs (spS v u w 0 s i o ins out) [.str [40,91,123],.str t] [.str [40,91,123],.str t]:=.cons (.refl .str) (.cons (.refl .str) (.nil _))
   have hfr2 : Frzs (spS v u w 0 s i o ins out) [.str [41,93,125],.str t] [.str [41,93,125],.str t]:=.cons (.refl .str) (.cons (.refl .str) (.nil _))
   have hw1 : IntKind.i64.wrap ((o : Nat) + 1) = ((o + 1 : Nat) : Int):=by rw [IntWalk.i64_in _ ⟨by omega,by omega⟩]; omega
   have hwm : IntKind.i64.wrap ((o : Nat) - 1) = (o : Int) - 1:=by rw [IntWalk.i64_in _ ⟨by omega,by omega⟩]
   have hwt : IntKind.i64.wrap ((i : Nat) + (t.length : Nat)) = ((i + t.length : Nat) : Int):=by
    have : i ≤ s.length:=by omega
    rw [IntWalk.i64_in _ ⟨by omega,by omega⟩]; omega
   have hlow : ∀ o : Int,LowH 3 (spSI v u w 0 s i o ins out):=fun o => by
    have h:=spH_low v u w s i 0 ins out [(0,some (.cells [.ptr 0 v 0] ⟨false,none⟩))]
    intro id ver x hid hx
    match id,hid with
    | 0,_ =>
     cases hx
     refine .cells fun y hy => ?_
     simp only [List.mem_cons,List.not_mem_nil,or_false] at hy
     rcases hy with rfl | rfl | rfl | rfl | rfl
     ·exact .str
     ·exact .int
     ·exact .int
     ·exact .ms (by decide)
     ·exact .ms (by decide)
    | 1,_ => exact h 1 ver x (by decide) hx
    | 2,_ => exact h 2 ver x (by decide) hx
   by_cases ho1 : t ∈ opens
   ·simp only [ho1,if_true]
    rw [decide_eq_true ho1] at cO
    by_cases ho2 : 30 ≤ o
    ·simp only [ho2,if_true]
     refine pa [.k (.int .i64 j),.b false,.v (.str t),.v (.bool true),.b true,.b true] rfl ?_ ?_
     ·(repeat' with_reducible apply AllP_cons) <;> try exact aC
      ·exact ⟨_,cO,hfr⟩
     exact S_callP rfl rfl rfl (fail_ok _ v 2 i) ⟨3,Nat.le_refl _,hlow _,lowF (2,i),rfl,v,u,w,i,_,ins,out,rfl⟩
    ·simp only [ho2,if_false]
     refine pa [.k (.int .i64 j),.b false,.v (.str t),.v (.bool true),.b true,.b false] rfl ?_ ?_
     ·(repeat' with_reducible apply AllP_cons) <;> try exact aC
      ·exact ⟨_,cO,hfr⟩
     refine S_heap (spS v u w 0 s i (o + 1) ins out) ?_ ?_
     ·show spSI v u w 0 s i (IntKind.i64.wrap ((o : Nat) + 1)) ins out = _
      rw [hw1]; rfl
     refine pa [.c (.tup []) (spS v u (w + 1) 0 s i (o + 1) ins (out ++ [⟨4,t,0,i⟩]))] rfl ?_ ?_
     ·(repeat' with_reducible apply AllP_cons) <;> try exact aC
      exact put4 i (o + 1) t
     refine S_heap (spS v u (w + 1) 0 s (i + t.length) (o + 1) ins (out ++ [⟨4,t,0,i⟩])) ?_ ?_
     ·show spSI v u (w + 1) 0 s (IntKind.i64.wrap ((i : Nat) + (t.length : Nat))) ((o + 1) : Nat) ins _ = _
      rw [hwt]; rfl
     exact S_nil ⟨_,_,rfl,trivial,3,Nat.le_refl _,spH_low v u (w + 1) s (i + t.length) (o + 1) ins _ [(0,some (.cells [.ptr 0 v 0] ⟨false,none⟩))],.tup [],.low (.tup (by simp)),u,w + 1,rfl,rfl⟩
   ·simp only [ho1,if_false]
    rw [decide_eq_false ho1] at cO
    by_cases hc1 : t ∈ closes
    ·simp only [hc1,if_true]
     rw [decide_eq_true hc1] at cC
     by_cases hc2 : o = 0
     ·rw [if_pos hc2]
      refine pa [.k (.int .i64 j),.b false,.v (.str t),.v (.bool false),.b false,.v (.bool true),.b true,.b true] rfl ?_ ?_
      ·(repeat' with_reducible apply AllP_cons) <;> try exact aC
       ·exact ⟨_,cO,hfr⟩
       ·exact ⟨_,cC,hfr2⟩
      exact S_callP rfl rfl rfl (fail_ok _ v 1 i) ⟨3,Nat.le_refl _,hlow _,lowF (1,i),rfl,v,u,w,i,_,ins,out,rfl⟩
     ·rw [if_neg hc2]
      refine pa [.k (.int .i64 j),.b false,.v (.str t),.v (.bool false),.b false,.v (.bool true),.b true,.b false] rfl ?_ ?_
      ·(repeat' with_reducible apply AllP_cons) <;> try exact aC
       ·exact ⟨_,cO,hfr⟩
       ·exact ⟨_,cC,hfr2⟩
      refine S_heap (spS v u w 0 s i (o - 1) ins out) ?_ ?_
      ·show spSI v u w 0 s i (IntKind.i64.wrap ((o : Nat) - 1)) ins out = _
       rw [hwm,show ((o : Int) - 1) = ((o - 1 : Nat) : Int) by omega]; rfl
      refine pa [.c (.tup []) (spS v u (w + 1) 0 s i (o - 1) ins (out ++ [⟨4,t,0,i⟩]))] rfl ?_ ?_
      ·(repeat' with_reducible apply AllP_cons) <;> try exact aC
       exact put4 i (o - 1) t
      refine S_heap (spS v u (w + 1) 0 s (i + t.length) (o - 1) ins (out ++ [⟨4,t,0,i⟩])) ?_ ?_
      ·show spSI v u (w + 1) 0 s (IntKind.i64.wrap ((i : Nat) + (t.length : Nat))) ((o - 1) : Nat) ins _ = _
       rw [hwt]; rfl
      exact S_nil ⟨_,_,rfl,trivial,3,Nat.le_refl _,spH_low v u (w + 1) s (i + t.length) (o - 1) ins _ [(0,some (.cells [.ptr 0 v 0] ⟨false,none⟩))],.tup [],.low (.tup (by simp)),u,w + 1,rfl,rfl⟩
    ·simp only [hc1,if_false]
     rw [decide_eq_false hc1] at cC
     refine pa [.k (.int .i64 j),.b false,.v (.str t),.v (.bool false),.b false,.v (.bool false),.b false] rfl ?_ ?_
     ·(repeat' with_reducible apply AllP_cons) <;> try exact aC
      ·exact ⟨_,cO,hfr⟩
      ·exact ⟨_,cC,hfr2⟩
     refine pa [.c (.tup []) (spS v u (w + 1) 0 s i o ins (out ++ [⟨4,t,0,i⟩]))] rfl ?_ ?_
     ·(repeat' with_reducible apply AllP_cons) <;> try exact aC
      exact put4 i o t
     refine S_heap (spS v u (w + 1) 0 s (i + t.length) o ins (out ++ [⟨4,t,0,i⟩])) ?_ ?_
     ·show spSI v u (w + 1) 0 s (IntKind.i64.wrap ((i : Nat) + (t.length : Nat))) (o : Nat) ins _ = _
      rw [hwt]; rfl
     exact S_nil ⟨_,_,rfl,trivial,3,Nat.le_refl _,spH_low v u (w + 1) s (i + t.length) o ins _ [(0,some (.cells [.ptr 0 v 0] ⟨false,none⟩))],.tup [],.low (.tup (by simp)),u,w + 1,rfl,rfl⟩
def rbB (b : Nat) (bs : List UInt8) : Nat × Option Box:=(b,some (.cells (bs.map byteAV) ⟨false,none⟩))
def rsQ (v u w b : Nat) (s : List UInt8) (i o : Nat) (ins : List Nat) (out : List Tok) (bs : List UInt8) : Heap:=rsH v u w s i o ins out ++ [rbB b bs]
def rsQI (v u w b : Nat) (s : List UInt8) (i : Int) (o : Nat) (ins : List Nat) (out : List Tok) (bs : List AV) : Heap :=
 [(v,some (.cells [.str s,.int .i64 i,.int .i64 (o : Nat),insV u ins,outV w out] ⟨false,some 79⟩)),insB u ins,outB w out,(b,some (.cells bs ⟨false,none⟩))]
theorem rsH_rn (v u w : Nat) (s : List UInt8) (i o : Nat) (ins : List Nat) (out : List Tok) : RnH (List.range 3) (rsH v u w s i o ins out) (rsH v u w s i o ins out):=by
 have h:=spH_rn v u w s i o ins out
 have ht : ∀ x ∈ out.flatMap tokC,Free false x:=by
  intro x hx
  obtain ⟨t,_,ht⟩:=List.mem_flatMap.1 hx
  simp only [tokC,List.mem_cons,List.not_mem_nil,or_false] at ht
  rcases ht with rfl | rfl | rfl | rfl
  ·exact .int
  ·exact .str
  ·exact .int
  ·exact .int
 exact .cons (.live (.cells (.cons (.free .str) (.cons (.free .int) (.cons (.free .int) (.cons (.ms rfl) (.cons (.ms rfl) (.nil _)))))))) (.cons (.live (.cells (.free (ints_free ins)))) (.cons (.live (.cells (.free ht))) (.nil _)))
theorem rsH_low (v u w : Nat) (s : List UInt8) (i o : Nat) (ins : List Nat) (out : List Tok) (τ : Heap) : LowH 3 (rsH v u w s i o ins out ++ τ):=by
 have h:=spH_low v u w s i o ins out τ
 intro id ver x hid hx
 match id,hid with
 | 0,_ =>
  cases hx
  refine .cells fun y hy => ?_
  simp only [List.mem_cons,List.not_mem_nil,or_false] at hy
  rcases hy with rfl | rfl | rfl | rfl | rfl
  ·exact .str
  ·exact .int
  ·exact .int
  ·exact .ms (by decide)
  ·exact .ms (by decide)
 | 1,_ => exact h 1 ver x (by decide) hx
 | 2,_ => exact h 2 ver x (by decide) hx
theorem back_bytes (bs : List UInt8) : ((((bs.map byteAV).drop 0).take bs.length).map Ab.byteOf) = bs:=by
 rw [List.drop_zero,List.take_of_length_le (by simp),bytes_of]
theorem appB (bs : List UInt8) (c : UInt8) {x : Int} (h : x = (c.toNat : Int)) : bs.map byteAV ++ [.int .u8 x] = (bs ++ [c]).map byteAV:=by
 rw [List.map_append,h]; rfl
def quoS (s : List UInt8) (i o : Nat) : Flt ⊕ (Tok × Nat × Nat):=match quoteS (s.drop (i + 1)) (i + 1) [] with
 | .inl p => .inl (1,p)
 | .inr (b,j) => .inr (⟨3,b,0,i⟩,j,o)
structure RSt where
 j : Nat
 b : Nat
 bs : List UInt8
theorem quoted_ok (v u w : Nat) (s : List UInt8) (i o : Nat) (ins : List Nat) (out : List Tok) (hi : i < s.length) (hs : s.length ≤ 1048576) (hl : out.length ≤ 900000) :
  CallOk cx 94 [.ptr 0 v 0] (rsH v u w s i o ins out) (RsEnd s (endS (quoS s i o) ins out) v) :=
 callOk_introT (fun a w => Tryz.call94 a w) Tryz.func94 rfl Tryz.ntmps94 rfl fun B => by
  have fin : ∀ (p b : Nat) (bs : List UInt8),quoS s i o = .inl (1,p) → TR 3 (RsEnd s (endS (quoS s i o) ins out) v) (.ret (.int .i64 1)) (rsQ v u w b s p o ins out bs):=fun p b bs h =>
   ⟨3,Nat.le_refl _,rsH_low v u w s p o ins out _,.int .i64 1,.low .int,by rw [h]; exact ⟨rfl,u,w,o,ins,out,rfl⟩⟩
  have hw1 : IntKind.i64.wrap ((i : Nat) + 1) = ((i + 1 : Nat) : Int):=by rw [IntWalk.i64_in _ ⟨by omega,by omega⟩]; omega
  refine pB [] rfl ?_
  refine S_ghostF (t:=4) 1 ⟨false,none⟩ rfl rfl ⟨_,_,.inl rfl⟩ ?_
  refine S_heap (rsQ v u w 0 s (i + 1) o ins out []) ?_ ?_
  ·show rsQI v u w 0 s (IntKind.i64.wrap ((i : Nat) + 1)) o ins out [] = _
   rw [hw1]; rfl
  refine S_while (α:=RSt) (fun q => [(0,.ptr 0 v 0),(3,.int .i64 i),(4,.ms 3 q.b 0 q.bs.length 1 false)]) (fun q => rsQ v u w q.b s q.j o ins out q.bs)
   (fun q => i < q.j ∧ q.j ≤ s.length ∧ q.bs.length ≤ q.j ∧ quoteS (s.drop q.j) q.j q.bs = quoteS (s.drop (i + 1)) (i + 1) []) (fun q => s.length - q.j) ⟨i + 1,0,[]⟩
   ⟨by show i < i + 1; omega,hi,Nat.zero_le _,rfl⟩ (.cons rfl (.cons rfl (.cons rfl (.nil _)))) rfl ?_
  rintro ⟨j,b,bs⟩ ⟨h1,h2,h3,hq⟩
  simp only at h1 h2 h3 hq
  show S cx _ B _ _ [(0,.ptr 0 v 0),(3,.int .i64 i),(4,.ms 3 b 0 bs.length 1 false)] (rsQ v u w b s j o ins out bs)
  have hwj : IntKind.i64.wrap ((j : Nat) + 1) = ((j + 1 : Nat) : Int):=by rw [IntWalk.i64_in _ ⟨by omega,by omega⟩]; omega
  have hbl : 0 + bs.length * 1 = (bs.map byteAV).length:=by simp
  by_cases hlt : j < s.length
  ·have hgc : (((s.getD (j : Int).toNat 0).toNat : Nat) : Int) = ((s[j].toNat : Nat) : Int):=by rw [Int.toNat_natCast,getD_byte hlt]
   have hdr : s.drop j = s[j] :: s.drop (j + 1):=List.drop_eq_getElem_cons hlt
   rw [hdr,quoteS.eq_def] at hq
   simp only at hq
   by_cases hc1 : s[j].toNat < 32
   ·rw [if_pos hc1] at hq
    refine pB [.b false,.b true] rfl ?_
    exact S_ret ⟨_,_,rfl,trivial,fin j b bs (by rw [quoS,← hq])⟩
   ·rw [if_neg hc1] at hq
    have hcd : decide ((((s.getD (j : Int).toNat 0).toNat : Nat) : Int) < 32) = false:=by rw [hgc]; exact decide_eq_false (by omega)
    by_cases hc2 : s[j] = 34
    ·rw [if_pos (by rw [hc2]; rfl)] at hq
     have he : ((((s.getD (j : Int).toNat 0).toNat : Nat) : Int) == 34) = true:=by rw [hgc,hc2]; rfl
     refine pa [.b false,.b false,.b true] rfl ?_ ?_
     ·(repeat' with_reducible apply AllP_cons) <;> try exact aC
      intro x hx
      exact bytes_isByte bs x (by simpa using List.mem_of_mem_take hx)
     refine S_heap (rsQ v u w b s (j + 1) o ins out bs) ?_ ?_
     ·show rsQI v u w b s (IntKind.i64.wrap ((j : Nat) + 1)) o ins out (bs.map byteAV) = _
      rw [hwj]; rfl
     have hput:=(rputH v u w s (j + 1) o ins out 3 bs i (by omega)).pre1 3 [rbB b bs] rfl rfl (.cons (.ptr rfl) (.free (by intro x hx; simp at hx; rcases hx with rfl | rfl | rfl; exact .int; exact .str; exact .int))) (rsH_rn ..) (rsH_rn ..) (.free (.tup (by simp)))
     refine pa [.c (.tup []) (rsQ v u (w + 1) b s (j + 1) o ins (out ++ [⟨3,bs,0,i⟩]) bs)] rfl ?_ ?_
     ·(repeat' with_reducible apply AllP_cons) <;> try exact aC
      show CallOk cx _ [.ptr 0 v 0,.int .i64 3,.str ((((bs.map byteAV).drop 0).take bs.length).map Ab.byteOf),.int .i64 i] _ _
      rw [back_bytes]; exact hput
     refine S_ret ⟨_,_,rfl,trivial,3,Nat.le_refl _,rsH_low v u (w + 1) s (j + 1) o ins _ _,.int .i64 0,.low .int,?_⟩
     rw [quoS,← hq]
     exact ⟨u,w + 1,rfl,rfl⟩
    ·rw [if_neg (by simpa using hc2)] at hq
     have he : ((((s.getD (j : Int).toNat 0).toNat : Nat) : Int) == 34) = false:=by rw [hgc]; exact beq_false_of_ne (fun h => hc2 (UInt8.toNat_inj.1 (by show s[j].toNat = 34; omega)))
     by_cases hc3 : s[j] = 92
     ·rw [if_neg (by rw [hc3]; decide)] at hq
      have he3 : ((((s.getD (j : Int).toNat 0).toNat : Nat) : Int) != 92) = false:=by rw [hgc,hc3]; rfl
      have hwj2 : IntKind.i64.wrap (((j + 1 : Nat) : Int) + 1) = ((j + 2 : Nat) : Int):=by rw [IntWalk.i64_in _ ⟨by omega,by omega⟩]; omega
      refine pB [.b false,.b false,.b false,.b false] rfl ?_
      refine S_heap (rsQ v u w b s (j + 1) o ins out bs) ?_ ?_
      ·show rsQI v u w b s (IntKind.i64.wrap ((j : Nat) + 1)) o ins out (bs.map byteAV) = _
       rw [hwj]; rfl
      by_cases hl2 : j + 1 < s.length
      ·have hge : decide (IntKind.i64.wrap ((j : Nat) + 1) ≥ (s.length : Int)) = false:=by rw [hwj]; exact decide_eq_false (by omega)
       have hdr2 : s.drop (j + 1) = s[j + 1] :: s.drop (j + 2):=List.drop_eq_getElem_cons hl2
       rw [hdr2] at hq
       simp only at hq
       have hgd : (((s.getD ((j + 1 : Nat) : Int).toNat 0).toNat : Nat) : Int) = ((s[j + 1].toNat : Nat) : Int):=by rw [Int.toNat_natCast,getD_byte hl2]
       have h0 : (0 : Int) ≤ ((j + 1 : Nat) : Int) ∧ ((j + 1 : Nat) : Int) < (s.length : Int):=by omega
       have ne : ∀ n : Nat,n < 256 → s[j + 1] ≠ UInt8.ofNat n → ((((s.getD ((j + 1 : Nat) : Int).toNat 0).toNat : Nat) : Int) == (n : Int)) = false:=fun n hn h => by
        rw [hgd,byte_eq _ _ hn]; exact beq_false_of_ne h
       have eq : ∀ n : Nat,n < 256 → s[j + 1] = UInt8.ofNat n → ((((s.getD ((j + 1 : Nat) : Int).toNat 0).toNat : Nat) : Int) == (n : Int)) = true:=fun n hn h => by
        rw [hgd,byte_eq _ _ hn,h]; exact beq_self_eq_true _
       by_cases d1 : s[j + 1] = 110
       ·have e1:=eq 110 (by decide) d1
        rw [d1] at hq
        refine pa [.b false,.b true] rfl ?_ ?_
        ·(repeat' with_reducible apply AllP_cons) <;> try exact aC
         show (bs.length + 1) * 1 ≤ 140737488355328; omega
        refine S_round ⟨j + 2,b + 1,bs ++ [10]⟩ (by show s.length - (j + 2) < s.length - j; omega) ⟨by show i < j + 2; omega,by show j + 2 ≤ s.length; omega,by show (bs ++ [10]).length ≤ j + 2; simp; omega,hq⟩ (.cons rfl (.cons rfl (.cons ?_ (.nil _)))) ?_
        ·show AV.ms 3 (b + 1) 0 (bs.length + 1) 1 false = .ms 3 (b + 1) 0 (bs ++ [10]).length 1 false
         rw [List.length_append]; rfl
        ·show rsQI v u w (b + 1) s (IntKind.i64.wrap (((j + 1 : Nat) : Int) + 1)) o ins out (bs.map byteAV ++ [.int .u8 10]) = _
         rw [hwj2,appB bs 10 (x:=10) rfl]; rfl
       have e1:=ne 110 (by decide) d1
       by_cases d2 : s[j + 1] = 116
       ·have e2:=eq 116 (by decide) d2
        rw [d2] at hq
        refine pa [.b false,.b false,.b true] rfl ?_ ?_
        ·(repeat' with_reducible apply AllP_cons) <;> try exact aC
         show (bs.length + 1) * 1 ≤ 140737488355328; omega
        refine S_round ⟨j + 2,b + 1,bs ++ [9]⟩ (by show s.length - (j + 2) < s.length - j; omega) ⟨by show i < j + 2; omega,by show j + 2 ≤ s.length; omega,by show (bs ++ [9]).length ≤ j + 2; simp; omega,hq⟩ (.cons rfl (.cons rfl (.cons ?_ (.nil _)))) ?_
        ·show AV.ms 3 (b + 1) 0 (bs.length + 1) 1 false = .ms 3 (b + 1) 0 (bs ++ [9]).length 1 false
         rw [List.length_append]; rfl
        ·show rsQI v u w (b + 1) s (IntKind.i64.wrap (((j + 1 : Nat) : Int) + 1)) o ins out (bs.map byteAV ++ [.int .u8 9]) = _
         rw [hwj2,appB bs 9 (x:=9) rfl]; rfl
       have e2:=ne 116 (by decide) d2
       by_cases d3 : s[j + 1] = 92
       ·have e3:=eq 92 (by decide) d3
        rw [d3] at hq hgd
        refine pa [.b false,.b false,.b false,.b true,.b true] rfl ?_ ?_
        ·(repeat' with_reducible apply AllP_cons) <;> try exact aC
         show (bs.length + 1) * 1 ≤ 140737488355328; omega
        refine S_round ⟨j + 2,b + 1,bs ++ [92]⟩ (by show s.length - (j + 2) < s.length - j; omega) ⟨by show i < j + 2; omega,by show j + 2 ≤ s.length; omega,by show (bs ++ [92]).length ≤ j + 2; simp; omega,hq⟩ (.cons rfl (.cons rfl (.cons ?_ (.nil _)))) ?_
        ·show AV.ms 3 (b + 1) 0 (bs.length + 1) 1 false = .ms 3 (b + 1) 0 (bs ++ [92]).length 1 false
         rw [List.length_append]; rfl
        ·show rsQI v u w (b + 1) s (IntKind.i64.wrap (((j + 1 : Nat) : Int) + 1)) o ins out (bs.map byteAV ++ [.int .u8 (((s.getD ((j + 1 : Nat) : Int).toNat 0).toNat : Nat) : Int)]) = _
         rw [hwj2,appB bs 92 hgd]; rfl
       have e3:=ne 92 (by decide) d3
       by_cases d4 : s[j + 1] = 34
       ·have e4:=eq 34 (by decide) d4
        rw [d4] at hq hgd
        refine pa [.b false,.b false,.b false,.b false,.b true] rfl ?_ ?_
        ·(repeat' with_reducible apply AllP_cons) <;> try exact aC
         show (bs.length + 1) * 1 ≤ 140737488355328; omega
        refine S_round ⟨j + 2,b + 1,bs ++ [34]⟩ (by show s.length - (j + 2) < s.length - j; omega) ⟨by show i < j + 2; omega,by show j + 2 ≤ s.length; omega,by show (bs ++ [34]).length ≤ j + 2; simp; omega,hq⟩ (.cons rfl (.cons rfl (.cons ?_ (.nil _)))) ?_
        ·show AV.ms 3 (b + 1) 0 (bs.length + 1) 1 false = .ms 3 (b + 1) 0 (bs ++ [34]).length 1 false
         rw [List.length_append]; rfl
        ·show rsQI v u w (b + 1) s (IntKind.i64.wrap (((j + 1 : Nat) : Int) + 1)) o ins out (bs.map byteAV ++ [.int .u8 (((s.getD ((j + 1 : Nat) : Int).toNat 0).toNat : Nat) : Int)]) = _
         rw [hwj2,appB bs 34 hgd]; rfl
       have e4:=ne 34 (by decide) d4
       have : esc s[j + 1] = none:=by simp [esc,d1,d2,d3,d4]
       rw [this] at hq
       simp only at hq
       refine pB [.b false,.b false,.b false,.b false,.b false] rfl ?_
       exact S_ret ⟨_,_,rfl,trivial,fin (j + 1) b bs (by rw [quoS,← hq])⟩
      ·have hge : decide (IntKind.i64.wrap ((j : Nat) + 1) ≥ (s.length : Int)) = true:=by rw [hwj]; exact decide_eq_true (by omega)
       have hnil : s.drop (j + 1) = []:=List.drop_eq_nil_of_le (by omega)
       rw [hnil] at hq
       simp only at hq
       refine pB [.b true] rfl ?_
       exact S_ret ⟨_,_,rfl,trivial,fin (j + 1) b bs (by rw [quoS,← hq])⟩
     ·rw [if_pos (by simpa using hc3)] at hq
      have he3 : ((((s.getD (j : Int).toNat 0).toNat : Nat) : Int) != 92) = true:=by rw [hgc]; exact bne_iff_ne.2 (fun h => hc3 (UInt8.toNat_inj.1 (by show s[j].toNat = 92; omega)))
      refine pa [.b false,.b false,.b false,.b true] rfl ?_ ?_
      ·(repeat' with_reducible apply AllP_cons) <;> try exact aC
       show (bs.length + 1) * 1 ≤ 140737488355328; omega
      refine S_round ⟨j + 1,b + 1,bs ++ [s[j]]⟩ (by show s.length - (j + 1) < s.length - j; omega) ⟨by show i < j + 1; omega,hlt,by show (bs ++ [s[j]]).length ≤ j + 1; simp; omega,hq⟩ (.cons rfl (.cons rfl (.cons ?_ (.nil _)))) ?_
      ·show AV.ms 3 (b + 1) 0 (bs.length + 1) 1 false = .ms 3 (b + 1) 0 (bs ++ [s[j]]).length 1 false
       rw [List.length_append]; rfl
      ·show rsQI v u w (b + 1) s (IntKind.i64.wrap ((j : Nat) + 1)) o ins out (bs.map byteAV ++ [.int .u8 (((s.getD (j : Int).toNat 0).toNat : Nat) : Int)]) = _
       rw [hwj,appB bs s[j] hgc]; rfl
  ·have hnil : s.drop j = []:=List.drop_eq_nil_of_le (by omega)
   rw [hnil,quoteS.eq_def] at hq
   simp only at hq
   refine pB [.b true,.b true] rfl ?_
   exact S_ret ⟨_,_,rfl,trivial,fin j b bs (by rw [quoS,← hq])⟩
theorem noescape (v : Value) (w : World) : (callFunc 70 #[v]).run cx.P w = .ok (.value v) w:=by
 show (callFunc 70 #[v]).run Tryz.prog w = _
 rw [run_callFunc_extern Tryz.func70 rfl rfl rfl (e:=Extern.AbiNoEscape.same) rfl]
 rfl
structure HoldsB (T : TypeId) (n : Nat) : Prop where
 pos : 0 < cx.P.cellsOf T
 le : cx.P.cellsOf T ≤ n
 lies : ∀ k,liesAt cx.P cx.P.depth T (k + 1) 0 61 1 = true
def bBox (T : TypeId) (a b : AV) (rest : List AV) : Box:=.cells (a :: b :: rest) ⟨false,some T⟩
def byBox (bs : List UInt8) : Box:=.cells (bs.map byteAV) ⟨false,some 5⟩
theorem copyCheck_ok {T : TypeId} {rest : List AV} (hT : HoldsB T (rest.length + 1 + 1)) (v : Nat) (a b : AV) (ha : a = .nilp ∨ a = .ptr 0 v 0) (y : Nat × Option Box) :
  CallOk cx 40 [.ptr 0 v 0] [(v,some (bBox T a b rest)),y] (fun o σ' => o = .ret (.tup []) ∧ σ' = [(v,some (bBox T (.ptr 0 v 0) b rest)),y]) :=
 callOk_intro (fun a w => Tryz.call40 a w) Tryz.func40 rfl Tryz.ntmps40 rfl fun B => by
  rcases ha with rfl | rfl
  ·refine ab 1000 rfl ⟨rfl,trivial⟩ ?_
   refine S_cond rfl (fun _ => ?_) (fun h => ?_)
   ·refine ab 1000 rfl trivial ?_
    refine S_toU rfl rfl rfl ⟨rfl,by simp,by decide,trivial⟩ ?_
    refine S_same noescape rfl rfl rfl ?_
    refine S_fromU rfl rfl rfl ⟨rfl,rfl,hT.pos,hT.le,hT.lies,trivial⟩ ?_
    refine ab 1000 rfl ⟨lble rfl,rfl,trivial⟩ ?_
    exact S_nil ⟨_,_,rfl,trivial,rfl,rfl⟩
   ·cases h
  ·refine ab 1000 rfl ⟨rfl,trivial⟩ ?_
   refine S_cond rfl (fun h => ?_) (fun _ => ?_)
   ·cases h
   ·refine ab 1000 rfl ⟨rfl,rfl,trivial⟩ ?_
    refine S_cond rfl (fun h => ?_) (fun _ => ?_)
    ·cases h
    ·refine ab 1000 rfl trivial ?_
     exact S_nil ⟨_,_,rfl,trivial,rfl,rfl⟩
theorem writeByte_ok {T : TypeId} {rest : List AV} (hT : HoldsB T (rest.length + 1 + 1)) (v u : Nat) (a : AV) (ha : a = .nilp ∨ a = .ptr 0 v 0) (bs : List UInt8) (c : UInt8) (hl : bs.length < 140737488355328) :
  CallOk cx 29 [.ptr 0 v 0,byteAV c] [(v,some (bBox T a (.ms 1 u 0 bs.length 1 false) rest)),(u,some (byBox bs))]
   (fun o σ' => o = .ret .nili ∧ σ' = [(v,some (bBox T (.ptr 0 v 0) (.ms 1 (u + 1) 0 (bs ++ [c]).length 1 false) rest)),(u + 1,some (byBox (bs ++ [c])))]) :=
 callOk_intro (fun a w => Tryz.call29 a w) Tryz.func29 rfl Tryz.ntmps29 rfl fun B => by
  refine ab 1000 rfl trivial ?_
  refine S_call rfl rfl rfl (copyCheck_ok hT v a _ ha _) ?_ (fun v σ' h => by cases h.1)
  rintro _ _ ⟨⟨⟩,rfl⟩
  refine ab 1000 rfl ⟨lble rfl,rfl,?_,?_,?_,rfl,rfl,allOne_mem (cs:=[byteAV c]) rfl,allOne_mem (cs:=[byteAV c]) rfl,rfl,rfl,trivial⟩ ?_
  ·show bs.length + 1 ≤ 9223372036854775807; omega
  ·show (bs.length + 1) * 1 ≤ 140737488355328; omega
  ·show 0 + bs.length * 1 = (bs.map byteAV).length; simp
  refine S_ret ⟨_,_,rfl,trivial,rfl,?_⟩
  show [(v,some (Box.cells (_ :: .ms 1 (u + 1) 0 (bs.length + 1) 1 false :: rest) _)),(u + 1,some (.cells (bs.map byteAV ++ [byteAV c]) _))] = _
  simp [byBox,bBox]
  rfl
theorem string_ok {T : TypeId} {rest : List AV} (v u : Nat) (a : AV) (bs : List UInt8) (h0 : bs ≠ []) (hl : bs.length ≤ 140737488355328) :
  CallOk cx 31 [.ptr 0 v 0] [(v,some (bBox T a (.ms 1 u 0 bs.length 1 false) rest)),(u,some (byBox bs))]
   (fun o σ' => o = .ret (.str bs) ∧ σ' = [(v,some (bBox T a (.ms 1 u 0 bs.length 1 false) rest)),(u,none)]) :=
 callOk_intro (fun a w => Tryz.call31 a w) Tryz.func31 rfl Tryz.ntmps31 rfl fun B => by
  refine ab 1000 rfl trivial ?_
  have hpos : 0 < bs.length:=List.length_pos_iff.2 h0
  refine S_draw 10 [] [] rfl rfl rfl rfl ⟨rfl,rfl,rfl,rfl,rfl,rfl,hpos,rfl,rfl,rfl,rfl,rfl,rfl,trivial⟩ ?_
  refine S_ustr bs rfl rfl rfl ⟨rfl,rfl,rfl,rfl,h0,by omega,List.take_of_length_le (by simp),trivial⟩ ?_
  refine ab 1000 rfl trivial ?_
  exact S_ret ⟨_,_,rfl,trivial,rfl,rfl⟩
def bufV (u : Nat) : List UInt8 → AV
 | [] => .nils
 | c :: bs => .ms 1 u 0 (c :: bs).length 1 false
def bufB (u : Nat) : List UInt8 → Nat × Option Box
 | [] => (u,none)
 | c :: bs => (u,some (byBox (c :: bs)))
theorem writeByteF_ok {T : TypeId} (hT : HoldsB T 2) (v u : Nat) (a : AV) (ha : a = .nilp ∨ a = .ptr 0 v 0) (c : UInt8) :
  CallOk cx 29 [.ptr 0 v 0,byteAV c] [(v,some (bBox T a .nils [])),(u,none)]
   (fun o σ' => o = .ret .nili ∧ σ' = [(v,some (bBox T (.ptr 0 v 0) (.ms 1 (u + 1) 0 1 1 false) [])),(u + 1,some (byBox [c]))]) :=
 callOk_intro (fun a w => Tryz.call29 a w) Tryz.func29 rfl Tryz.ntmps29 rfl fun B => by
  refine ab 1000 rfl trivial ?_
  refine S_call rfl rfl rfl (copyCheck_ok (rest:=[]) hT v a .nils ha _) ?_ (fun v σ' h => by cases h.1)
  rintro _ _ ⟨⟨⟩,rfl⟩
  refine pB [] rfl ?_
  exact S_ret ⟨_,_,rfl,trivial,rfl,rfl⟩
theorem writeByteU_ok {T : TypeId} (hT : HoldsB T 2) (v u : Nat) (a : AV) (ha : a = .nilp ∨ a = .ptr 0 v 0) (bs : List UInt8) (c : UInt8) (hl : bs.length < 140737488355328) :
  CallOk cx 29 [.ptr 0 v 0,byteAV c] [(v,some (bBox T a (bufV u bs) [])),bufB u bs]
   (fun o σ' => o = .ret .nili ∧ σ' = [(v,some (bBox T (.ptr 0 v 0) (bufV (u + 1) (bs ++ [c])) [])),bufB (u + 1) (bs ++ [c])]):=by
 cases bs with
 | nil => exact writeByteF_ok hT v u a ha c
 | cons b bs => exact writeByte_ok (rest:=[]) hT v u a ha (b :: bs) c hl
theorem string0_ok {T : TypeId} (v u : Nat) (a : AV) :
  CallOk cx 31 [.ptr 0 v 0] [(v,some (bBox T a .nils [])),(u,none)]
   (fun o σ' => o = .ret (.str []) ∧ σ' = [(v,some (bBox T a .nils [])),(u,none)]) :=
 callOk_intro (fun a w => Tryz.call31 a w) Tryz.func31 rfl Tryz.ntmps31 rfl fun B => by
  refine pB [] rfl ?_
  refine S_ustr [] rfl rfl rfl ⟨rfl,rfl,trivial⟩ ?_
  refine ab 1000 rfl trivial ?_
  exact S_ret ⟨_,_,rfl,trivial,rfl,rfl⟩
theorem stringU_ok {T : TypeId} (v u : Nat) (a : AV) (bs : List UInt8) (hl : bs.length ≤ 140737488355328) :
  CallOk cx 31 [.ptr 0 v 0] [(v,some (bBox T a (bufV u bs) [])),bufB u bs]
   (fun o σ' => o = .ret (.str bs) ∧ σ' = [(v,some (bBox T a (bufV u bs) [])),(u,none)]):=by
 cases bs with
 | nil => exact string0_ok v u a
 | cons b bs => exact string_ok (rest:=[]) v u a (b :: bs) (by simp) hl
theorem holdsB : HoldsB 61 2:=⟨lble rfl,lble rfl,fun k => by kernel_rfl⟩
def bufV4 (u : Nat) : List UInt8 → AV
 | [] => .nils
 | c :: bs => .ms 4 u 0 (c :: bs).length 1 false
def qT (b : Nat) (a : AV) (bs : List UInt8) : Heap:=[(0,some (.cells [a,bufV4 b bs] ⟨false,some 61⟩)),bufB b bs]
def spQ (v u w b : Nat) (s : List UInt8) (i o : Nat) (ins : List Nat) (out : List Tok) (a : AV) (bs : List UInt8) : Heap:=spH v u w s i o ins out ++ (qT b a bs ++ [])
def spQI (v u w b : Nat) (s : List UInt8) (i : Int) (o : Nat) (ins : List Nat) (out : List Tok) (a : AV) (bs : List UInt8) : Heap :=
 [(v,some (.cells [.str s,.int .i64 i,.int .i64 (o : Nat),insV u ins,outV w out] ⟨false,some 75⟩)),insB u ins,outB w out,(0,some (.cells [a,bufV4 b bs] ⟨false,some 61⟩)),bufB b bs]
theorem bytes_fr {st : Bool} (bs : List UInt8) : ∀ x ∈ bs.map byteAV,Free st x:=by
 intro x hx; obtain ⟨y,_,rfl⟩:=List.mem_map.1 hx; exact .int
theorem qT_rn (b : Nat) (a a' : AV) (h : Rn (List.range' 3 2) a a') (bs : List UInt8) : RnH (List.range' 3 2) [(0,some (bBox 61 a (bufV b bs) [])),bufB b bs] (qT b a' bs):=by
 cases bs with
 | nil => exact .cons (.live (.cells (.cons h (.cons (.free .nils) (.nil _))))) (.cons .dead (.nil _))
 | cons c bs => exact .cons (.live (.cells (.cons h (.cons (.ms rfl) (.nil _))))) (.cons (.live (.cells (.free (bytes_fr (c :: bs))))) (.nil _))
theorem writeQ (v u w b : Nat) (s : List UInt8) (i o : Nat) (ins : List Nat) (out : List Tok) (a : AV) (ha : a = .nilp ∨ a = .ptr 3 0 0) (bs : List UInt8) (c : UInt8) (hl : bs.length < 140737488355328) :
  CallOk cx 29 [.ptr 3 0 0,byteAV c] (spQ v u w b s i o ins out a bs) (fun e σ => e = .ret .nili ∧ σ = spQ v u w (b + 1) s i o ins out (.ptr 3 0 0) (bs ++ [c])):=by
 obtain ⟨a0,h1,h2⟩ : ∃ a0,(a0 = .nilp ∨ a0 = .ptr 0 0 0) ∧ Rn (List.range' 3 2) a0 a:=by
  rcases ha with rfl | rfl
  ·exact ⟨.nilp,.inl rfl,.free .nilp⟩
  ·exact ⟨.ptr 0 0 0,.inr rfl,.ptr rfl⟩
 exact (writeByteU_ok holdsB 0 b a0 h1 bs c hl).mid 3 2 (spH v u w s i o ins out) [] rfl rfl rfl (.cons (.ptr rfl) (.cons (.free .int) (.nil _))) (qT_rn b a0 a h2 bs) (qT_rn (b + 1) (.ptr 0 0 0) (.ptr 3 0 0) (.ptr rfl) (bs ++ [c])) (.free .nili)
theorem stringQ (v u w b : Nat) (s : List UInt8) (i o : Nat) (ins : List Nat) (out : List Tok) (a : AV) (ha : a = .nilp ∨ a = .ptr 3 0 0) (bs : List UInt8) (hl : bs.length ≤ 140737488355328) :
  CallOk cx 31 [.ptr 3 0 0] (spQ v u w b s i o ins out a bs) (fun e σ => e = .ret (.str bs) ∧ σ = spH v u w s i o ins out ++ ([(0,some (.cells [a,bufV4 b bs] ⟨false,some 61⟩)),(b,none)] ++ [])):=by
 obtain ⟨a0,h2⟩ : ∃ a0,Rn (List.range' 3 2) a0 a:=by
  rcases ha with rfl | rfl
  ·exact ⟨.nilp,.free .nilp⟩
  ·exact ⟨.ptr 0 0 0,.ptr rfl⟩
 refine (stringU_ok (T:=61) 0 b a0 bs hl).mid 3 2 (spH v u w s i o ins out) [] rfl rfl rfl (.cons (.ptr rfl) (.nil _)) (qT_rn b a0 a h2 bs) ?_ (.free .str)
 cases bs with
 | nil => exact .cons (.live (.cells (.cons h2 (.cons (.free .nils) (.nil _))))) (.cons .dead (.nil _))
 | cons c bs => exact .cons (.live (.cells (.cons h2 (.cons (.ms rfl) (.nil _))))) (.cons .dead (.nil _))
def kOf (d : UInt8) : Int:=Lib.indexByte [110,116,92,34] d
theorem kOf_esc (d : UInt8) : (esc d = none ∧ kOf d = -1) ∨ ∃ (k : Nat) (h : k < 4) (e : UInt8),esc d = some e ∧ kOf d = k ∧ [10,9,92,34][k] = e:=by
 by_cases h1 : d = 110
 ·subst h1; exact .inr ⟨0,by decide,10,rfl,rfl,rfl⟩
 by_cases h2 : d = 116
 ·subst h2; exact .inr ⟨1,by decide,9,rfl,rfl,rfl⟩
 by_cases h3 : d = 92
 ·subst h3; exact .inr ⟨2,by decide,92,rfl,rfl,rfl⟩
 by_cases h4 : d = 34
 ·subst h4; exact .inr ⟨3,by decide,34,rfl,rfl,rfl⟩
 ·left
  refine ⟨by simp [esc,h1,h2,h3,h4],by simp [kOf,Lib.indexByte,Ne.symm h1,Ne.symm h2,Ne.symm h3,Ne.symm h4]⟩
structure QSt where
 j : Nat
 b : Nat
 a : AV
 bs : List UInt8
theorem text_ok (v u w : Nat) (s : List UInt8) (i o : Nat) (ins : List Nat) (out : List Tok) (hi : i < s.length) (hs : s.length ≤ 1048576) (hl : out.length ≤ 900000) :
  CallOk cx 113 [.ptr 0 v 0] (spH v u w s i o ins out) (SpEnd s (endS (quoS s i o) ins out) v) :=
 callOk_introT (fun a w => Tryz.call113 a w) Tryz.func113 rfl Tryz.ntmps113 rfl fun B => by
  have lowF : ∀ e : Flt,Low 3 (flt e):=fun e => .iface (.agg (by intro x hx; simp at hx; rcases hx with rfl | rfl; exact .int; exact .int))
  have fin : ∀ (p b : Nat) (a : AV) (bs : List UInt8),quoS s i o = .inl (1,p) → TR 3 (SpEnd s (endS (quoS s i o) ins out) v) (.panic (flt (1,p))) (spQ v u w b s p o ins out a bs):=fun p b a bs h =>
   ⟨3,Nat.le_refl _,spH_low v u w s p o ins out _,lowF _,by rw [h]; exact ⟨rfl,v,u,w,p,o,ins,out,rfl⟩⟩
  have hw1 : IntKind.i64.wrap ((i : Nat) + 1) = ((i + 1 : Nat) : Int):=by rw [IntWalk.i64_in _ ⟨by omega,by omega⟩]; omega
  refine pB [] rfl ?_
  refine S_dead ?_ ⟨_,_,.inl rfl⟩
  refine S_heap (spQ v u w 0 s (i + 1) o ins out .nilp []) ?_ ?_
  ·show spQI v u w 0 s (IntKind.i64.wrap ((i : Nat) + 1)) o ins out .nilp [] = _
   rw [hw1]; rfl
  refine S_while (α:=QSt) (fun q => [(0,.ptr 0 v 0),(2,.int .i64 i),(3,.ptr 3 0 0)]) (fun q => spQ v u w q.b s q.j o ins out q.a q.bs)
   (fun q => i < q.j ∧ q.j ≤ s.length ∧ q.bs.length ≤ q.j ∧ (q.a = .nilp ∨ q.a = .ptr 3 0 0) ∧ quoteS (s.drop q.j) q.j q.bs = quoteS (s.drop (i + 1)) (i + 1) []) (fun q => s.length - q.j) ⟨i + 1,0,.nilp,[]⟩
   ⟨by show i < i + 1; omega,hi,Nat.zero_le _,.inl rfl,rfl⟩ (.cons rfl (.cons rfl (.cons rfl (.nil _)))) rfl ?_
  rintro ⟨j,b,a,bs⟩ ⟨h1,h2,h3,ha,hq⟩
  simp only at h1 h2 h3 ha hq
  show S cx _ B _ _ [(0,.ptr 0 v 0),(2,.int .i64 i),(3,.ptr 3 0 0)] (spQ v u w b s j o ins out a bs)
  have hwj : IntKind.i64.wrap ((j : Nat) + 1) = ((j + 1 : Nat) : Int):=by rw [IntWalk.i64_in _ ⟨by omega,by omega⟩]; omega
  by_cases hlt : j < s.length
  ·have hgc : (((s.getD (j : Int).toNat 0).toNat : Nat) : Int) = ((s[j].toNat : Nat) : Int):=by rw [Int.toNat_natCast,getD_byte hlt]
   have hdr : s.drop j = s[j] :: s.drop (j + 1):=List.drop_eq_getElem_cons hlt
   rw [hdr,quoteS.eq_def] at hq
   simp only at hq
   by_cases hc1 : s[j].toNat < 32
   ·rw [if_pos hc1] at hq
    refine pB [.b false,.b true] rfl ?_
    exact S_callP rfl rfl rfl (fail_ok _ v 1 j) (fin j b a bs (by rw [quoS,← hq]))
   ·rw [if_neg hc1] at hq
    have hcd : decide ((((s.getD (j : Int).toNat 0).toNat : Nat) : Int) < 32) = false:=by rw [hgc]; exact decide_eq_false (by omega)
    by_cases hc2 : s[j] = 34
    ·rw [if_pos (by rw [hc2]; rfl)] at hq
     have he : ((((s.getD (j : Int).toNat 0).toNat : Nat) : Int) == 34) = true:=by rw [hgc,hc2]; rfl
     refine pB [.b false,.b false,.b true] rfl ?_
     refine S_heap (spQ v u w b s (j + 1) o ins out a bs) ?_ ?_
     ·show spQI v u w b s (IntKind.i64.wrap ((j : Nat) + 1)) o ins out a bs = _
      rw [hwj]; rfl
     have hput:=(putH v u w s (j + 1) o ins out 3 bs i (by omega)).pre1 3 ([(0,some (.cells [a,bufV4 b bs] ⟨false,some 61⟩)),(b,none)] ++ []) rfl rfl (.cons (.ptr rfl) (.free (by intro x hx; simp at hx; rcases hx with rfl | rfl | rfl; exact .int; exact .str; exact .int))) (spH_rn ..) (spH_rn ..) (.free (.tup (by simp)))
     refine pa [.c (.str bs) (spH v u w s (j + 1) o ins out ++ ([(0,some (.cells [a,bufV4 b bs] ⟨false,some 61⟩)),(b,none)] ++ [])),.c (.tup []) (spH v u (w + 1) s (j + 1) o ins (out ++ [⟨3,bs,0,i⟩]) ++ ([(0,some (.cells [a,bufV4 b bs] ⟨false,some 61⟩)),(b,none)] ++ []))] rfl ?_ ?_
     ·(repeat' with_reducible apply AllP_cons) <;> try exact aC
      exact stringQ v u w b s (j + 1) o ins out a ha bs (by omega)
     refine S_nil ⟨_,_,rfl,trivial,3,Nat.le_refl _,spH_low v u (w + 1) s (j + 1) o ins _ _,.tup [],.low (.tup (by simp)),?_⟩
     rw [quoS,← hq]
     exact ⟨u,w + 1,rfl,rfl⟩
    ·rw [if_neg (by simpa using hc2)] at hq
     have he : ((((s.getD (j : Int).toNat 0).toNat : Nat) : Int) == 34) = false:=by rw [hgc]; exact beq_false_of_ne (fun h => hc2 (UInt8.toNat_inj.1 (by show s[j].toNat = 34; omega)))
     by_cases hc3 : s[j] = 92
     ·rw [if_neg (by rw [hc3]; decide)] at hq
      have he3 : ((((s.getD (j : Int).toNat 0).toNat : Nat) : Int) == 92) = true:=by rw [hgc,hc3]; rfl
      have hwj2 : IntKind.i64.wrap (((j + 1 : Nat) : Int) + 1) = ((j + 2 : Nat) : Int):=by rw [IntWalk.i64_in _ ⟨by omega,by omega⟩]; omega
      by_cases hl2 : j + 1 < s.length
      ·have hdr2 : s.drop (j + 1) = s[j + 1] :: s.drop (j + 2):=List.drop_eq_getElem_cons hl2
       rw [hdr2] at hq
       simp only at hq
       have hgd : (((s.getD ((j + 1 : Nat) : Int).toNat 0).toNat : Nat) : Int) = ((s[j + 1].toNat : Nat) : Int):=by rw [Int.toNat_natCast,getD_byte hl2]
       have hix : ∀ σ,∃ args',Calc cx 30 args' (.int .i64 (kOf s[j + 1])) ∧ Frzs σ [.str [110,116,92,34],.int .u8 (((s.getD ((j + 1 : Nat) : Int).toNat 0).toNat : Nat) : Int)] args':=fun σ => by
        have h:=indexByte_ok [110,116,92,34] ((s[j + 1].toNat : Nat) : Int)
        rw [byteBack] at h
        rw [hgd]
        exact ⟨_,h,.cons (.refl .str) (.cons (.refl .int) (.nil _))⟩
       have h0 : (0 : Int) ≤ ((j + 1 : Nat) : Int) ∧ ((j + 1 : Nat) : Int) < (s.length : Int):=by omega
       rcases kOf_esc s[j + 1] with ⟨e1,e2⟩ | ⟨k,hk,e,e1,e2,e3⟩
       ·rw [e1] at hq
        simp only at hq
        rw [e2] at hix
        refine pB [.b false,.b false,.b false,.b true] rfl ?_
        refine S_heap (spQ v u w b s (j + 1) o ins out a bs) ?_ ?_
        ·show spQI v u w b s (IntKind.i64.wrap ((j : Nat) + 1)) o ins out a bs = _
         rw [hwj]; rfl
        refine pa [.b true,.v (.int .i64 (-1)),.b true] rfl ?_ ?_
        ·(repeat' with_reducible apply AllP_cons) <;> try exact aC
         exact hix _
        exact S_callP rfl rfl rfl (fail_ok _ v 1 (j + 1 : Nat)) (fin (j + 1) b a bs (by rw [quoS,← hq]))
       ·rw [e1] at hq
        simp only at hq
        rw [e2] at hix
        have hes : (((([10,9,92,34] : List UInt8).getD (k : Int).toNat 0).toNat : Nat) : Int) = (e.toNat : Int):=by rw [Int.toNat_natCast,getD_byte (s:=[10,9,92,34]) hk,e3]
        have hk2 : (0 : Int) ≤ (k : Int) ∧ (k : Int) < 4:=by omega
        have hwr:=writeQ v u w b s (j + 1) o ins out a ha bs e (by omega)
        refine pB [.b false,.b false,.b false,.b true] rfl ?_
        refine S_heap (spQ v u w b s (j + 1) o ins out a bs) ?_ ?_
        ·show spQI v u w b s (IntKind.i64.wrap ((j : Nat) + 1)) o ins out a bs = _
         rw [hwj]; rfl
        refine pa [.b true,.v (.int .i64 (k : Nat)),.b false,.c .nili (spQ v u w (b + 1) s (j + 1) o ins out (.ptr 3 0 0) (bs ++ [e]))] rfl ?_ ?_
        ·(repeat' with_reducible apply AllP_cons) <;> try exact aC
         ·exact hix _
         ·show CallOk cx _ [.ptr 3 0 0,.int .u8 (((([10,9,92,34] : List UInt8).getD (k : Int).toNat 0).toNat : Nat) : Int)] _ _
          rw [hes]; exact hwr
        refine S_round ⟨j + 2,b + 1,.ptr 3 0 0,bs ++ [e]⟩ (by show s.length - (j + 2) < s.length - j; omega) ⟨by show i < j + 2; omega,by show j + 2 ≤ s.length; omega,by show (bs ++ [e]).length ≤ j + 2; simp; omega,.inr rfl,hq⟩ (.cons rfl (.cons rfl (.cons rfl (.nil _)))) ?_
        show spQI v u w (b + 1) s (IntKind.i64.wrap (((j + 1 : Nat) : Int) + 1)) o ins out (.ptr 3 0 0) (bs ++ [e]) = _
        rw [hwj2]; rfl
      ·have hnil : s.drop (j + 1) = []:=List.drop_eq_nil_of_le (by omega)
       rw [hnil] at hq
       simp only at hq
       refine pB [.b false,.b false,.b false,.b true] rfl ?_
       refine S_heap (spQ v u w b s (j + 1) o ins out a bs) ?_ ?_
       ·show spQI v u w b s (IntKind.i64.wrap ((j : Nat) + 1)) o ins out a bs = _
        rw [hwj]; rfl
       refine pB [.b false,.b true] rfl ?_
       exact S_callP rfl rfl rfl (fail_ok _ v 1 (j + 1 : Nat)) (fin (j + 1) b a bs (by rw [quoS,← hq]))
     ·rw [if_pos (by simpa using hc3)] at hq
      have he3 : ((((s.getD (j : Int).toNat 0).toNat : Nat) : Int) == 92) = false:=by rw [hgc]; exact beq_false_of_ne (fun h => hc3 (UInt8.toNat_inj.1 (by show s[j].toNat = 92; omega)))
      have hwr:=writeQ v u w b s j o ins out a ha bs s[j] (by omega)
      refine pa [.b false,.b false,.b false,.b false,.c .nili (spQ v u w (b + 1) s j o ins out (.ptr 3 0 0) (bs ++ [s[j]]))] rfl ?_ ?_
      ·(repeat' with_reducible apply AllP_cons) <;> try exact aC
       show CallOk cx _ [.ptr 3 0 0,.int .u8 (((s.getD (j : Int).toNat 0).toNat : Nat) : Int)] _ _
       rw [hgc]; exact hwr
      refine S_round ⟨j + 1,b + 1,.ptr 3 0 0,bs ++ [s[j]]⟩ (by show s.length - (j + 1) < s.length - j; omega) ⟨by show i < j + 1; omega,hlt,by show (bs ++ [s[j]]).length ≤ j + 1; simp; omega,.inr rfl,hq⟩ (.cons rfl (.cons rfl (.cons rfl (.nil _)))) ?_
      show spQI v u w (b + 1) s (IntKind.i64.wrap ((j : Nat) + 1)) o ins out (.ptr 3 0 0) (bs ++ [s[j]]) = _
      rw [hwj]; rfl
  ·have hnil : s.drop j = []:=List.drop_eq_nil_of_le (by omega)
   rw [hnil,quoteS.eq_def] at hq
   simp only at hq
   refine pB [.b true,.b true] rfl ?_
   exact S_callP rfl rfl rfl (fail_ok _ v 1 j) (fin j b a bs (by rw [quoS,← hq]))
theorem runH_ok (F : FuncId) (P : UInt8 → Bool) (hF : ∀ c : UInt8,Calc cx F [.int .u8 (c.toNat : Nat)] (.bool (P c))) (v u w : Nat) (s : List UInt8) (i o : Nat) (ins : List Nat) (out : List Tok) (hi : i ≤ s.length) (hs : s.length ≤ 1048576) :
  CallOk cx 110 [.ptr 0 v 0,.func (.func F) [] []] (spH v u w s i o ins out) (fun r σ => r = .ret (.str (cutT s i (stopAt P s i))) ∧ σ = spH v u w s (stopAt P s i) o ins out) :=
 run_ok F P hF v u w _ _ s i o _ _ hi hs
def natM (t : List UInt8) : Nat:=min (natOf t) 9007199254740992
theorem natOf_snoc (t : List UInt8) (d : UInt8) : natOf (t ++ [d]) = 10 * natOf t + (d.toNat - 48):=by simp [natOf,List.foldl_append]
theorem natM_snoc (t : List UInt8) (d : UInt8) : natM (t ++ [d]) = min (10 * natM t + (d.toNat - 48)) 9007199254740992:=by
 unfold natM; rw [natOf_snoc]; omega
theorem natM_le (t : List UInt8) : natM t ≤ 9007199254740992:=by unfold natM; omega
theorem cutT_len {s : List UInt8} {i j : Nat} (h : i ≤ j) (hj : j ≤ s.length) : (cutT s i j).length = j - i:=by simp [cutT]; omega
theorem cutT_all {p : UInt8 → Bool} {s : List UInt8} {i : Nat} : ∀ x ∈ cutT s i (stopAt p s i),p x = true:=by
 intro x hx
 have e : cutT s i (stopAt p s i) = (s.drop i).takeWhile p:=by
  rw [cutT,List.drop_take,stopAt,Nat.add_sub_cancel_left]
  exact (List.prefix_iff_eq_take.1 (List.takeWhile_prefix p)).symm
 rw [e] at hx
 exact List.all_eq_true.1 List.all_takeWhile x hx
theorem cutT_head {s : List UInt8} {i j : Nat} (h : i < j) (hj : j ≤ s.length) : (cutT s i j)[0]? = some (s.getD i 0):=by
 have : i < s.length:=by omega
 rw [cutT,List.getElem?_drop,List.getElem?_take,if_pos (by omega)]
 simp [List.getD,this]
theorem SpEnd.ret {s : List UInt8} {x : Flt ⊕ (Nat × Nat × List Nat × List Tok)} {v : Nat} {r : AV} {σ : Heap} (h : SpEnd s x v (.ret r) σ) : r = .tup []:=by
 cases x with
 | inl e => cases h.1
 | inr q => obtain ⟨_,_,h,_⟩:=h; exact Out.ret.inj h
theorem next_ok (v u w : Nat) (s : List UInt8) (i o : Nat) (ins : List Nat) (out : List Tok) (hi : i < s.length) (hs : s.length ≤ 1048576) (ho : o ≤ 1000) (hl : out.length ≤ 900000) :
  CallOk cx 80 [.ptr 0 v 0] (spH v u w s i o ins out) (SpEnd s (endS (oneS s i o) ins out) v) :=
 callOk_intro (fun a w => Tryz.call80 a w) Tryz.func80 rfl Tryz.ntmps80 rfl fun B => by
  have hgc : (((s.getD (i : Int).toNat 0).toNat : Nat) : Int) = ((s[i].toNat : Nat) : Int):=by rw [Int.toNat_natCast,getD_byte hi]
  have hi2 : (0 : Int) ≤ (i : Int) ∧ (i : Int) < (s.length : Int):=by omega
  have hgd : s.getD i 0 = s[i]:=getD_byte hi
  have hLet : ∀ σ,∃ args',Calc cx 109 args' (.bool (isLet s[i])) ∧ Frzs σ [.int .u8 (((s.getD (i : Int).toNat 0).toNat : Nat) : Int)] args':=fun σ => by
   rw [hgc]; exact ⟨_,isLetter_ok s[i],.cons (.refl .int) (.nil _)⟩
  have hDig : ∀ σ,∃ args',Calc cx 112 args' (.bool (isDg s[i])) ∧ Frzs σ [.int .u8 (((s.getD (i : Int).toNat 0).toNat : Nat) : Int)] args':=fun σ => by
   rw [hgc]; exact ⟨_,isDigit_ok s[i],.cons (.refl .int) (.nil _)⟩
  unfold oneS
  rw [hgd]
  by_cases c1 : isLet s[i] = true
  ·rw [if_pos c1]
   rw [c1] at hLet
   obtain ⟨j,hj⟩ : ∃ j,j = stopAt (fun c => isLet c || isDg c) s i:=⟨_,rfl⟩
   obtain ⟨t,ht⟩ : ∃ t,t = cutT s i j:=⟨_,rfl⟩
   have hrun:=runH_ok 111 (fun c => isLet c || isDg c) nextLetter_ok v u w s i o ins out (by omega) hs
   rw [← hj,← ht] at hrun ⊢
   have hct : ∀ σ,∃ args',Calc cx 83 args' (.bool (decide (t ∈ words14))) ∧ Frzs σ [.sl true false 1 (texts words14),.str t] args':=fun σ =>
    ⟨_,ContainsS_ok words14 t (by decide),.cons (.refl (.sl (fun h => by cases h) (texts_any words14))) (.cons (.refl .str) (.nil _))⟩
   have hp:=fun k : Nat => putH v u w s j o ins out k t i (by omega)
   by_cases hm : t ∈ words14
   ·rw [if_pos hm]
    rw [decide_eq_true hm] at hct
    refine pa [.v (.bool true),.b true,.c (.str t) (spH v u w s j o ins out),.v (.bool true),.b true,.c (.tup []) (spH v u (w + 1) s j o ins (out ++ [⟨5,t,0,i⟩]))] rfl ?_ ?_
    ·(repeat' with_reducible apply AllP_cons) <;> try exact aC
     ·exact hLet _
     ·exact hct _
     ·exact hp 5
    exact S_nil ⟨_,_,rfl,trivial,u,w + 1,rfl,rfl⟩
   ·rw [if_neg hm]
    rw [decide_eq_false hm] at hct
    refine pa [.v (.bool true),.b true,.c (.str t) (spH v u w s j o ins out),.v (.bool false),.b false,.c (.tup []) (spH v u (w + 1) s j o ins (out ++ [⟨1,t,0,i⟩]))] rfl ?_ ?_
    ·(repeat' with_reducible apply AllP_cons) <;> try exact aC
     ·exact hLet _
     ·exact hct _
     ·exact hp 1
    exact S_nil ⟨_,_,rfl,trivial,u,w + 1,rfl,rfl⟩
  ·rw [if_neg c1]
   rw [Bool.not_eq_true] at c1
   rw [c1] at hLet
   by_cases c2 : isDg s[i] = true
   ·rw [if_pos c2]
    rw [c2] at hDig
    obtain ⟨j,hj⟩ : ∃ j,j = stopAt isDg s i:=⟨_,rfl⟩
    obtain ⟨t,ht⟩ : ∃ t,t = cutT s i j:=⟨_,rfl⟩
    have hrun:=runH_ok 112 isDg isDigit_ok v u w s i o ins out (by omega) hs
    have hjl:=stopAt_lt (p:=isDg) hi (by rw [hgd]; exact c2)
    have hall : ∀ x ∈ t,isDg x = true:=by rw [ht,hj]; exact cutT_all
    have htl : t.length = j - i:=by rw [ht]; exact cutT_len (by omega) (by omega)
    have ht0 : t[0]? = some s[i]:=by rw [ht,cutT_head (by omega) (by omega),hgd]
    rw [← hj,← ht] at hrun ⊢
    rw [← hj] at hjl
    have htk : ∀ k,(h : k < t.length) → (t.map byteAV)[(k : Int).toNat]? = some (byteAV t[k]):=fun k h => by rw [Int.toNat_natCast]; simp [h]
    refine pa [.v (.bool false),.b false,.v (.bool true),.b true,.c (.str t) (spH v u w s j o ins out)] rfl ?_ ?_
    ·(repeat' with_reducible apply AllP_cons) <;> try exact aC
     ·exact hLet _
     ·exact hDig _
    refine S_while (α:=Nat) (fun k => [(0,.ptr 0 v 0),(2,.int .i64 i),(6,.str t),(7,.int .i64 (natM (t.take k) : Nat)),(41,.sl true false 1 (t.map byteAV)),(42,.int .i64 (t.length : Nat)),(43,.int .i64 (k : Nat))]) (fun _ => spH v u w s j o ins out) (fun k => k ≤ t.length) (fun k => t.length - k) 0
     (Nat.zero_le _) (.cons rfl (.cons rfl (.cons rfl (.cons rfl (.cons rfl (.cons (by show AV.int .i64 ((t.map byteAV).length : Nat) = _; rw [List.length_map]) (.cons rfl (.nil _)))))))) rfl ?_
    rintro k hk
    have hk : k ≤ t.length:=hk
    by_cases hlt : k < t.length
    ·have hd : isDg t[k] = true:=hall _ (List.getElem_mem hlt)
     have hd : 48 ≤ t[k].toNat ∧ t[k].toNat ≤ 57:=by simpa [isDg] using hd
     have hn:=natM_le (t.take k)
     refine pa [.b true,.v (byteAV t[k])] rfl ?_ ?_
     ·(repeat' with_reducible apply AllP_cons) <;> try exact aC
      all_goals exact htk k hlt
     refine S_round (k + 1) (by show t.length - (k + 1) < t.length - k; omega) hlt (.cons rfl (.cons rfl (.cons rfl (.cons ?_ (.cons rfl (.cons rfl (.cons (ai64 rfl (by omega)) (.nil _)))))))) rfl
     show AV.int .i64 (min (IntKind.i64.wrap (IntKind.i64.wrap (10 * ((natM (t.take k) : Nat) : Int)) + IntKind.i64.wrap (IntKind.u8.wrap (((t[k].toNat : Nat) : Int) - 48)))) 9007199254740992) = _
     rw [List.take_succ_eq_append_getElem hlt,natM_snoc,IntWalk.u8_in _ ⟨by omega,by omega⟩,IntWalk.i64_in (10 * ((natM (t.take k) : Nat) : Int)) ⟨by omega,by omega⟩,IntWalk.i64_in (((t[k].toNat : Nat) : Int) - 48) ⟨by omega,by omega⟩,IntWalk.i64_in _ ⟨by omega,by omega⟩]
     congr 1; omega
    ·obtain rfl : k = t.length:=by omega
     show S cx _ B _ _ [(0,.ptr 0 v 0),(2,.int .i64 i),(6,.str t),(7,.int .i64 (natM (t.take t.length) : Nat)),(41,.sl true false 1 (t.map byteAV)),(42,.int .i64 (t.length : Nat)),(43,.int .i64 (t.length : Nat))] (spH v u w s j o ins out)
     rw [List.take_length]
     have hm : natM t = min (natOf t) 9007199254740992:=rfl
     by_cases hb : 9007199254740991 < natOf t
     ·rw [if_pos (.inl hb)]
      refine pB [.b false,.b true,.b true] rfl ?_
      exact S_callP rfl rfl rfl (failH v u w s j o ins out 3 i) ⟨rfl,v,u,w,j,o,ins,out,rfl⟩
     ·have hmn : natM t = natOf t:=by omega
      rw [hmn]
      have fin : ∀ F : Fr,True:=fun _ => trivial
      by_cases h1 : i + 1 < j
      ·have hl1 : (0 : Int) < (t.length : Int):=by omega
       have hh : ((t.getD (0 : Int).toNat 0).toNat : Int) = ((s[i].toNat : Nat) : Int):=by
        show (((t.getD 0 0).toNat : Nat) : Int) = _
        rw [List.getD,ht0]; rfl
       by_cases h2 : s[i] = 48
       ·rw [if_pos (.inr ⟨h2,h1⟩)]
        refine pa [.b false,.b false,.b true,.b true] rfl ?_ ?_
        ·(repeat' with_reducible apply AllP_cons) <;> try exact aC
         rw [hh,h2]; rfl
        exact S_callP rfl rfl rfl (failH v u w s j o ins out 3 i) ⟨rfl,v,u,w,j,o,ins,out,rfl⟩
       ·rw [if_neg (by rintro (h | ⟨h,_⟩); exact hb h; exact h2 h)]
        refine pa [.b false,.b false,.b true,.b false] rfl ?_ ?_
        ·(repeat' with_reducible apply AllP_cons) <;> try exact aC
         ·rw [hh]; exact beq_false_of_ne (fun h => h2 (UInt8.toNat_inj.1 (by show s[i].toNat = 48; omega)))
         ·show 0 + out.length * 4 = _; rw [tokC_len]; omega
         ·show (out.length + 1) * 40 ≤ 140737488355328; omega
        refine S_nil ⟨_,_,rfl,trivial,u,w + 1,rfl,?_⟩
        show [spB v s j o (insV u ins) (.ms 2 (w + 1) 0 (out.length + 1) 4 false),insB u ins,(w + 1,some (Box.cells (out.flatMap tokC ++ [.int .i64 2,.str t,.int .i64 (natOf t : Nat),.int .i64 i]) ⟨false,none⟩))] = _
        unfold spH outV outB
        rw [List.length_append,List.flatMap_append]; rfl
      ·rw [if_neg (by rintro (h | ⟨_,h⟩); exact hb h; exact h1 h)]
       refine pa [.b false,.b false,.b false,.b false] rfl ?_ ?_
       ·(repeat' with_reducible apply AllP_cons) <;> try exact aC
        ·show 0 + out.length * 4 = _; rw [tokC_len]; omega
        ·show (out.length + 1) * 40 ≤ 140737488355328; omega
       refine S_nil ⟨_,_,rfl,trivial,u,w + 1,rfl,?_⟩
       show [spB v s j o (insV u ins) (.ms 2 (w + 1) 0 (out.length + 1) 4 false),insB u ins,(w + 1,some (Box.cells (out.flatMap tokC ++ [.int .i64 2,.str t,.int .i64 (natOf t : Nat),.int .i64 i]) ⟨false,none⟩))] = _
       unfold spH outV outB
       rw [List.length_append,List.flatMap_append]; rfl
   ·rw [if_neg c2]
    rw [Bool.not_eq_true] at c2
    rw [c2] at hDig
    by_cases c3 : s[i] = 34
    ·rw [if_pos c3]
     have e3 : ((((s.getD (i : Int).toNat 0).toNat : Nat) : Int) == 34) = true:=by rw [hgc,c3]; rfl
     refine pa [.v (.bool false),.b false,.v (.bool false),.b false,.b true] rfl ?_ ?_
     ·(repeat' with_reducible apply AllP_cons) <;> try exact aC
      ·exact hLet _
      ·exact hDig _
     refine S_call rfl rfl rfl (text_ok v u w s i o ins out hi hs hl) (fun r σ' h => ?_) (fun r σ' h => h)
     obtain rfl:=h.ret
     refine pa [] rfl trivial ?_
     exact S_nil ⟨_,_,rfl,trivial,h⟩
    ·rw [if_neg c3]
     have e3 : ((((s.getD (i : Int).toNat 0).toNat : Nat) : Int) == 34) = false:=by rw [hgc]; exact beq_false_of_ne (fun h => c3 (UInt8.toNat_inj.1 (by show s[i].toNat = 34; omega)))
     refine pa [.v (.bool false),.b false,.v (.bool false),.b false,.b false] rfl ?_ ?_
     ·(repeat' with_reducible apply AllP_cons) <;> try exact aC
      ·exact hLet _
      ·exact hDig _
     refine S_call rfl rfl rfl (sign_ok v u w s i o ins out hi hs ho hl) (fun r σ' h => ?_) (fun r σ' h => h)
     obtain rfl:=h.ret
     refine pa [] rfl trivial ?_
     exact S_nil ⟨_,_,rfl,trivial,h⟩
theorem skipH (v u w : Nat) (s : List UInt8) (i o : Nat) (ins : List Nat) (out : List Tok) (hi : i ≤ s.length) (hs : s.length ≤ 1048576) :
  CallOk cx 46 [.ptr 0 v 0] (spH v u w s i o ins out) (fun r σ => r = .ret (.tup []) ∧ σ = spH v u w s (gapC s i) o ins out) :=
 skip_ok v u w _ _ s i o _ _ hi hs
def spA (v u w : Nat) (s : List UInt8) (i : Int) (o : Nat) (ins : List Nat) (out : List Tok) : Heap:=[(v,some (.cells [.str s,.int .i64 i,.int .i64 (o : Nat),insV u ins,outV w out] ⟨false,some 75⟩)),insB u ins,outB w out]
theorem oneS_o {s : List UInt8} {i o j o' : Nat} {t : Tok} (h : oneS s i o = .inr (t,j,o')) (ho : o ≤ 30) : o' ≤ 30:=by
 unfold oneS at h
 split at h
 ·cases h; exact ho
 ·split at h
  ·split at h
   ·cases h
   ·cases h; exact ho
  ·split at h
   ·split at h
    ·cases h
    ·cases h; exact ho
   ·split at h
    ·cases h
    ·split at h
     ·split at h
      ·cases h
      ·cases h; omega
     ·split at h
      ·split at h
       ·cases h
       ·cases h; omega
      ·cases h; exact ho
def lnS (s : List UInt8) (i o : Nat) (ins : List Nat) (out : List Tok) : Flt ⊕ (Nat × Nat × List Nat × List Tok):=match lineF (s.length + 1) s i o out with
 | .inl e => .inl e
 | .inr (k,out') => .inr (k,0,ins,out')
structure LSt where
 f : Nat
 j : Nat
 o : Nat
 u : Nat
 w : Nat
 out : List Tok
theorem line_ok (v u w : Nat) (s : List UInt8) (i o : Nat) (ins : List Nat) (out : List Tok) (hi : i ≤ s.length) (hs : s.length ≤ 6000) (ho : o ≤ 30) (hl : out.length + (s.length - i) ≤ 800000) :
  CallOk cx 48 [.ptr 0 v 0] (spH v u w s i o ins out) (SpEnd s (lnS s i o ins out) v) :=
 callOk_intro (fun a w => Tryz.call48 a w) Tryz.func48 rfl Tryz.ntmps48 rfl fun B => by
  refine pa [] rfl trivial ?_
  refine S_while (α:=LSt) (fun q => [(0,.ptr 0 v 0)]) (fun q => spH v q.u q.w s q.j q.o ins q.out)
   (fun q => q.j ≤ s.length ∧ q.o ≤ 30 ∧ q.out.length + (s.length - q.j) ≤ 800000 ∧ s.length - q.j < q.f ∧ lineF q.f s q.j q.o q.out = lineF (s.length + 1) s i o out) (fun q => s.length - q.j) ⟨s.length + 1,i,o,u,w,out⟩
   ⟨hi,ho,hl,by show s.length - i < s.length + 1; omega,rfl⟩ (.cons rfl (.nil _)) rfl ?_
  rintro ⟨f,j,o',u',w',out'⟩ ⟨h1,h2,h3,h4,h5⟩
  simp only at h1 h2 h3 h4 h5
  show S cx _ B _ _ [(0,.ptr 0 v 0)] (spH v u' w' s j o' ins out')
  obtain ⟨f,rfl⟩ : ∃ g,f = g + 1:=⟨f - 1,by omega⟩
  rw [lineF] at h5
  have hwj : IntKind.i64.wrap ((j : Nat) + 1) = ((j + 1 : Nat) : Int):=by rw [IntWalk.i64_in _ ⟨by omega,by omega⟩]; omega
  by_cases hlt : j < s.length
  ·have hgc : (((s.getD (j : Int).toNat 0).toNat : Nat) : Int) = ((s[j].toNat : Nat) : Int):=by rw [Int.toNat_natCast,getD_byte hlt]
   have hs0 : s[j]? = some s[j]:=List.getElem?_eq_getElem hlt
   have hj2 : (0 : Int) ≤ (j : Int) ∧ (j : Int) < (s.length : Int):=by omega
   rw [hs0] at h5
   by_cases hc : s[j] = 10
   ·have he : ((((s.getD (j : Int).toNat 0).toNat : Nat) : Int) != 10) = false:=by rw [hgc,hc]; rfl
    have he2 : ((((s.getD (j : Int).toNat 0).toNat : Nat) : Int) == 10) = true:=by rw [hgc,hc]; rfl
    by_cases hop : 0 < o'
    ·rw [if_pos ⟨hlt,.inr hop⟩,if_pos (by rw [hc])] at h5
     have hg:=gapC_le (s:=s) (i:=j + 1) (by omega)
     refine pB [.b true,.b false,.b true,.b true] rfl ?_
     refine S_heap (spH v u' w' s (j + 1) o' ins out') ?_ ?_
     ·show spA v u' w' s (IntKind.i64.wrap ((j : Nat) + 1)) o' ins out' = _
      rw [hwj]; rfl
     refine pa [.c (.tup []) (spH v u' w' s (gapC s (j + 1)) o' ins out')] rfl ?_ ?_
     ·(repeat' with_reducible apply AllP_cons) <;> try exact aC
      exact skipH v u' w' s (j + 1) o' ins out' (by omega) (by omega)
     exact S_round ⟨f,gapC s (j + 1),o',u',w',out'⟩ (by show s.length - gapC s (j + 1) < s.length - j; omega) ⟨hg.2,h2,by show out'.length + (s.length - gapC s (j + 1)) ≤ 800000; omega,by show s.length - gapC s (j + 1) < f; omega,h5⟩ (.cons rfl (.nil _)) rfl
    ·rw [if_neg (by rintro ⟨_,h | h⟩; exact h (by rw [hc]); exact hop h),if_neg hop,if_pos hlt] at h5
     refine pa [.b true,.b false,.b false,.b false,.c (.tup []) (spH v u' (w' + 1) s j o' ins (out' ++ [tokLine j])),.b true] rfl ?_ ?_
     ·(repeat' with_reducible apply AllP_cons) <;> try exact aC
      exact putH v u' w' s j o' ins out' 6 [] j (by omega)
     refine S_heap (spH v u' (w' + 1) s (j + 1) 0 ins (out' ++ [tokLine j])) ?_ ?_
     ·show spA v u' (w' + 1) s (IntKind.i64.wrap ((j : Nat) + 1)) o' ins (out' ++ [tokLine j]) = _
      rw [hwj,show o' = 0 by omega]; rfl
     refine S_nil ⟨_,_,rfl,trivial,?_⟩
     rw [lnS,← h5]
     exact ⟨u',w' + 1,rfl,rfl⟩
   ·have he : ((((s.getD (j : Int).toNat 0).toNat : Nat) : Int) != 10) = true:=by rw [hgc]; exact bne_iff_ne.2 (fun h => hc (UInt8.toNat_inj.1 (by show s[j].toNat = 10; omega)))
    have he2 : ((((s.getD (j : Int).toNat 0).toNat : Nat) : Int) == 10) = false:=by rw [hgc]; exact beq_false_of_ne (fun h => hc (UInt8.toNat_inj.1 (by show s[j].toNat = 10; omega)))
    rw [if_pos ⟨hlt,.inl (by simpa using hc)⟩,if_neg (by simpa using hc)] at h5
    refine pB [.b true,.b true,.b true,.b false] rfl ?_
    refine S_call rfl rfl rfl (next_ok v u' w' s j o' ins out' hlt (by omega) (by omega) (by omega)) (fun r σ' h => ?_) (fun r σ' h => ?_)
    ·obtain rfl:=h.ret
     cases hx : oneS s j o' with
     | inl e => rw [hx] at h; cases h.1
     | inr q =>
      obtain ⟨t,j2,o2⟩:=q
      rw [hx] at h h5
      obtain ⟨u2,w2,_,rfl⟩:=h
      have hb:=oneS_le hlt hx
      have hb2:=oneS_o hx h2
      have hg:=gapC_le (s:=s) (i:=j2) (by omega)
      refine pa [.c (.tup []) (spH v u2 w2 s (gapC s j2) o2 ins (out' ++ [t]))] rfl ?_ ?_
      ·(repeat' with_reducible apply AllP_cons) <;> try exact aC
       exact skipH v u2 w2 s j2 o2 ins (out' ++ [t]) (by omega) (by omega)
      exact S_round ⟨f,gapC s j2,o2,u2,w2,out' ++ [t]⟩ (by show s.length - gapC s j2 < s.length - j; omega) ⟨hg.2,hb2,by show (out' ++ [t]).length + (s.length - gapC s j2) ≤ 800000; simp; omega,by show s.length - gapC s j2 < f; omega,h5⟩ (.cons rfl (.nil _)) rfl
    ·cases hx : oneS s j o' with
     | inl e =>
      rw [hx] at h h5
      rw [lnS,← h5]
      exact h
     | inr q => rw [hx] at h; obtain ⟨_,_,h,_⟩:=h; cases h
  ·rw [if_neg (fun h => hlt h.1),if_neg hlt] at h5
   by_cases hop : 0 < o'
   ·rw [if_pos hop] at h5
    refine pB [.b false,.b false,.b true] rfl ?_
    refine S_callP rfl rfl rfl (failH v u' w' s j o' ins out' 1 j) ?_
    rw [lnS,← h5]
    exact ⟨rfl,v,u',w',j,o',ins,out',rfl⟩
   ·rw [if_neg hop] at h5
    refine pa [.b false,.b false,.b false,.c (.tup []) (spH v u' (w' + 1) s j o' ins (out' ++ [tokLine j])),.b false] rfl ?_ ?_
    ·(repeat' with_reducible apply AllP_cons) <;> try exact aC
     exact putH v u' w' s j o' ins out' 6 [] j (by omega)
    refine S_nil ⟨_,_,rfl,trivial,?_⟩
    rw [lnS,← h5]
    exact ⟨u',w' + 1,rfl,by rw [show o' = 0 by omega]⟩
theorem stopAt_stops {p : UInt8 → Bool} {s : List UInt8} : ∀ (n i : Nat),s.length - i = n → ∀ (h : stopAt p s i < s.length),p s[stopAt p s i] = false
 | 0,i,hn,h => by rw [stopAt_end (by omega)] at h; omega
 | n + 1,i,hn,h => by
  have hi : i < s.length:=by omega
  by_cases hp : p s[i] = true
  ·simp only [stopAt_yes hi hp] at h ⊢
   exact stopAt_stops n (i + 1) (by omega) h
  ·rw [Bool.not_eq_true] at hp
   simp only [stopAt_no hi hp]; exact hp
theorem gapC_or {s : List UInt8} {i : Nat} (h : gapC s i < s.length) : s[gapC s i] = 10 ∨ gapC s i = gapE s i:=by
 by_cases h1 : s[gapE s i]? = some 35
 ·left
  have e : gapC s i = stopAt (fun c => !(c == 10)) s (gapE s i):=by rw [gapC,if_pos h1]
  simp only [e] at h ⊢
  simpa using stopAt_stops (p:=fun c => !(c == 10)) _ _ rfl h
 ·right; rw [gapC,if_neg h1]
theorem gapC_end {s : List UInt8} {i : Nat} (h : s.length ≤ i) : gapC s i = i:=by
 have e : gapE s i = i:=stopAt_end h
 rw [gapC,e,List.getElem?_eq_none h,if_neg (by simp)]
theorem furS_zero {ins : List Nat} (hi : Insok ins) (i : Nat) : furS 0 i ins = .inr (ins.take (stay ins 0),List.replicate (ins.length - stay ins 0) (tokOut i)):=by
 have h0 : 0 ∈ ins:=List.mem_of_getElem? hi.zero
 rw [furS,if_neg (by omega),if_pos h0]
theorem lineF_le : ∀ (f : Nat) {s : List UInt8} {i o k : Nat} {out out' : List Tok},i ≤ s.length → lineF f s i o out = .inr (k,out') → i ≤ k ∧ k ≤ s.length ∧ out'.length ≤ out.length + (k - i) + 1 ∧ (i < s.length → i < k)
 | 0,s,i,o,k,out,out',hi,h => by cases h
 | f + 1,s,i,o,k,out,out',hi,h => by
  rw [lineF] at h
  split at h
  ·rename_i hc
   have hlt:=hc.1
   split at h
   ·have hg:=gapC_le (s:=s) (i:=i + 1) (by omega)
    have:=lineF_le f hg.2 h
    omega
   ·split at h
    ·cases h
    ·rename_i t j o' hx
     have hb:=oneS_le hlt hx
     have hg:=gapC_le (s:=s) (i:=j) (by omega)
     have:=lineF_le f hg.2 h
     simp only [List.length_append,List.length_singleton] at this
     omega
  ·split at h
   ·cases h
   ·cases h
    rw [List.length_append,List.length_singleton]
    split <;> omega
def AlEnd (s : List UInt8) (x : Flt ⊕ List Tok) (v : Nat) : Out → Heap → Prop:=fun e σ => match x with
 | .inl x => e = .panic (flt x) ∧ ∃ v u w i o ins out,σ = spHI v u w s i o ins out
 | .inr l => ∃ u w i o ins,e = .ret (.tup []) ∧ σ = spH v u w s i o ins l
structure ASt where
 f : Nat
 i : Nat
 u : Nat
 w : Nat
 ins : List Nat
 out : List Tok
theorem all_ok (v u w : Nat) (s : List UInt8) (hs : s.length ≤ 6000) :
  CallOk cx 35 [.ptr 0 v 0] (spH v u w s 0 0 [0] []) (AlEnd s (allF (s.length + 1) s 0 [0] []) v) :=
 callOk_intro (fun a w => Tryz.call35 a w) Tryz.func35 rfl Tryz.ntmps35 rfl fun B => by
  refine pa [] rfl trivial ?_
  refine S_while (α:=ASt) (fun q => [(0,.ptr 0 v 0)]) (fun q => spH v q.u q.w s q.i 0 q.ins q.out)
   (fun q => q.i ≤ s.length ∧ Insok q.ins ∧ q.ins.length ≤ 31 ∧ q.out.length + q.ins.length ≤ 4 * q.i + 1 ∧ s.length - q.i < q.f ∧ allF q.f s q.i q.ins q.out = allF (s.length + 1) s 0 [0] []) (fun q => s.length - q.i) ⟨s.length + 1,0,u,w,[0],[]⟩
   ⟨Nat.zero_le _,⟨List.pairwise_singleton _ _,rfl⟩,lble rfl,lble rfl,by show s.length - 0 < s.length + 1; omega,rfl⟩ (.cons rfl (.nil _)) rfl ?_
  rintro ⟨f,i,u',w',ins,out⟩ ⟨h1,h2,h3,h4,h5,h6⟩
  simp only at h1 h2 h3 h4 h5 h6
  show S cx _ B _ _ [(0,.ptr 0 v 0)] (spH v u' w' s i 0 ins out)
  obtain ⟨f,rfl⟩ : ∃ g,f = g + 1:=⟨f - 1,by omega⟩
  rw [allF] at h6
  obtain ⟨J,hJ⟩ : ∃ J,J = gapC s i:=⟨_,rfl⟩
  have hg:=gapC_le (s:=s) (i:=i) h1
  rw [← hJ] at h6 hg
  have hbk:=back_ok v u' w' s J 0 ins out 0 h2 h3 (by omega)
  have hsk:=skipH v u' w' s i 0 ins out h1 (by omega)
  rw [← hJ] at hsk
  by_cases hge : s.length ≤ J
  ·rw [if_pos hge,furS_zero h2] at h6
   have hfin : AlEnd s (allF (s.length + 1) s 0 [0] []) v (.ret (.tup [])) (spH v u' (w' + (ins.length - stay ins 0)) s J 0 (ins.take (stay ins 0)) (out ++ List.replicate (ins.length - stay ins 0) (tokOut J))):=by
    rw [← h6]; exact ⟨_,_,_,_,_,rfl,rfl⟩
   by_cases hlt : i < s.length
   ·refine pB [.b true,.c (.tup []) (spH v u' w' s J 0 ins out),.b false,.b false,.b true,.c (.tup []) (spH v u' (w' + (ins.length - stay ins 0)) s J 0 (ins.take (stay ins 0)) (out ++ List.replicate (ins.length - stay ins 0) (tokOut J)))] rfl ?_
    exact S_nil ⟨_,_,rfl,trivial,hfin⟩
   ·have : J = i:=by rw [hJ]; exact gapC_end (by omega)
    subst this
    refine pB [.b false,.c (.tup []) (spH v u' (w' + (ins.length - stay ins 0)) s J 0 (ins.take (stay ins 0)) (out ++ List.replicate (ins.length - stay ins 0) (tokOut J)))] rfl ?_
    exact S_nil ⟨_,_,rfl,trivial,hfin⟩
  ·have hJl : J < s.length:=by omega
   have hgc : (((s.getD (J : Int).toNat 0).toNat : Nat) : Int) = ((s[J].toNat : Nat) : Int):=by rw [Int.toNat_natCast,getD_byte hJl]
   have hs0 : s[J]? = some s[J]:=List.getElem?_eq_getElem hJl
   have hj2 : (0 : Int) ≤ (J : Int) ∧ (J : Int) < (s.length : Int):=by omega
   rw [if_neg hge,hs0] at h6
   by_cases hc : s[J] = 10
   ·rw [if_pos (by rw [hc])] at h6
    have he : ((((s.getD (J : Int).toNat 0).toNat : Nat) : Int) == 10) = true:=by rw [hgc,hc]; rfl
    have hwj : IntKind.i64.wrap ((J : Nat) + 1) = ((J + 1 : Nat) : Int):=by rw [IntWalk.i64_in _ ⟨by omega,by omega⟩]; omega
    refine pB [.b true,.c (.tup []) (spH v u' w' s J 0 ins out),.b true,.b true] rfl ?_
    refine S_round ⟨f,J + 1,u',w',ins,out⟩ (by show s.length - (J + 1) < s.length - i; omega) ⟨hJl,h2,h3,by show out.length + ins.length ≤ 4 * (J + 1) + 1; omega,by show s.length - (J + 1) < f; omega,h6⟩ (.cons rfl (.nil _)) ?_
    show spA v u' w' s (IntKind.i64.wrap ((J : Nat) + 1)) 0 ins out = _
    rw [hwj]; rfl
   ·rw [if_neg (by simpa using hc)] at h6
    have he : ((((s.getD (J : Int).toNat 0).toNat : Nat) : Int) == 10) = false:=by rw [hgc]; exact beq_false_of_ne (fun h => hc (UInt8.toNat_inj.1 (by show s[J].toNat = 10; omega)))
    have hgE : J = gapE s i:=by
     rcases gapC_or (s:=s) (i:=i) (by rw [← hJ]; exact hJl) with h | h
     ·exact absurd (by simpa [← hJ] using h) hc
     ·rw [hJ]; exact h
    have hwn : IntKind.i64.wrap ((J : Int) - (i : Int)) = ((gapE s i - i : Nat) : Int):=by rw [IntWalk.i64_in _ ⟨by omega,by omega⟩]; omega
    refine pB [.b true,.c (.tup []) (spH v u' w' s J 0 ins out),.b true,.b false,.b false] rfl ?_
    refine S_calle rfl rfl rfl (args:=[.ptr 0 v 0,.int .i64 (gapE s i - i : Nat)]) (by rw [← hwn]; rfl) (begin_ok v u' w' s J 0 ins out (gapE s i - i) h2 h3 (by omega)) (fun r σ' h => ?_) (fun r σ' h => ?_)
    ·obtain rfl:=h.ret
     unfold begS at h
     cases hx : furS (gapE s i - i) J ins with
     | inl e => rw [hx] at h; cases h.1
     | inr q =>
      obtain ⟨ins',l⟩:=q
      rw [hx] at h h6
      obtain ⟨u2,w2,_,rfl⟩:=h
      obtain ⟨k1,k2,k3,k4⟩:=furS_ok h2 h3 hx
      simp only at h6
      refine pa [] rfl trivial ?_
      refine S_call rfl rfl rfl (line_ok v u2 w2 s J 0 ins' (out ++ l) (by omega) hs (by decide) (by simp; omega)) (fun r σ' h => ?_) (fun r σ' h => ?_)
      ·obtain rfl:=h.ret
       unfold lnS at h
       cases hy : lineF (s.length + 1) s J 0 (out ++ l) with
       | inl e => rw [hy] at h; cases h.1
       | inr q =>
        obtain ⟨k,out2⟩:=q
        rw [hy] at h h6
        obtain ⟨u3,w3,_,rfl⟩:=h
        have hb:=lineF_le _ (by omega) hy
        have hb4:=hb.2.2.2 hJl
        rw [List.length_append] at hb
        refine pa [] rfl trivial ?_
        exact S_round ⟨f,k,u3,w3,ins',out2⟩ (by show s.length - k < s.length - i; omega) ⟨hb.2.1,k1,k2,by show out2.length + ins'.length ≤ 4 * k + 1; omega,by show s.length - k < f; omega,h6⟩ (.cons rfl (.nil _)) rfl
      ·unfold lnS at h
       cases hy : lineF (s.length + 1) s J 0 (out ++ l) with
       | inl e =>
        rw [hy] at h h6
        rw [← h6]; exact h
       | inr q => rw [hy] at h; obtain ⟨_,_,h,_⟩:=h; cases h
    ·unfold begS at h
     cases hx : furS (gapE s i - i) J ins with
     | inl e =>
      rw [hx] at h h6
      rw [← h6]; exact h
     | inr q => rw [hx] at h; obtain ⟨_,_,h,_⟩:=h; cases h
def tokA (t : Tok) : AV:=.agg (tokC t)
def fltA (e : Flt) : AV:=.agg [.int .i64 (e.1 : Nat),.int .i64 (e.2 : Nat)]
def splitAV (x : List Tok × Flt) : AV:=.tup [.sl true false 4 (x.1.map tokA),fltA x.2]
theorem tokC_free {st : Bool} (t : Tok) : ∀ x ∈ tokC t,Free st x:=by
 intro x hx
 simp only [tokC,List.mem_cons,List.not_mem_nil,or_false] at hx
 rcases hx with rfl | rfl | rfl | rfl
 ·exact .int
 ·exact .str
 ·exact .int
 ·exact .int
theorem toks_free {st : Bool} (l : List Tok) : ∀ x ∈ l.map tokA,Free st x:=by
 intro x hx; obtain ⟨t,_,rfl⟩:=List.mem_map.1 hx; exact .agg (tokC_free t)
theorem flt_free {st : Bool} (e : Flt) : Free st (fltA e):=.agg (by intro x hx; simp at hx; rcases hx with rfl | rfl; exact .int; exact .int)
theorem splitAV_free (x : List Tok × Flt) : Free true (splitAV x):=.tup (by intro y hy; simp at hy; rcases hy with rfl | rfl; exact .sl (fun _ => rfl) (toks_free _); exact flt_free _)
theorem toks_cells (l : List Tok) : (l.map tokA).flatMap AV.cells = l.flatMap tokC:=by
 induction l with
 | nil => rfl
 | cons t r ih => rw [List.map_cons,List.flatMap_cons,List.flatMap_cons,ih]; rfl
theorem tok_cells_free {st : Bool} (l : List Tok) : ∀ x ∈ l.flatMap tokC,Free st x:=by
 intro x hx
 obtain ⟨t,_,ht⟩:=List.mem_flatMap.1 hx
 exact tokC_free t x ht
def xo (x : AV) : Nat × Option Box:=(0,some (.cells [x] ⟨false,none⟩))
def xf (e : Flt) : Nat × Option Box:=(0,some (.cells [.int .i64 (e.1 : Nat),.int .i64 (e.2 : Nat)] ⟨false,some 25⟩))
theorem clos_ret (x : AV) (e : Flt) (a b c : Nat × Box) (R : Md → Heap → Prop) (h : ∀ y,R .ret [xo x,xf e,(a.1,some a.2),(b.1,some b.2),(c.1,some c.2),y]) :
  DCall cx (.func (.func 34) [] [.ptr 0 0 0,.ptr 1 0 0]) .ret [xo x,xf e,(a.1,some a.2),(b.1,some b.2),(c.1,some c.2)] R :=
 dcall_recover (fun a w => Tryz.call34 a w) Tryz.func34 rfl Tryz.ntmps34 rfl rfl rfl rfl rfl rfl rfl fun B => by
  refine pB [.b false] rfl ?_
  exact S_nil ⟨_,_,rfl,trivial,_,rfl,h _⟩
theorem clos_pan (x : AV) (e g : Flt) (a b c : Nat × Box) (R : Md → Heap → Prop) (h : ∀ y,R (.pan (flt g) true) [xo .nils,xf g,(a.1,some a.2),(b.1,some b.2),(c.1,some c.2),y]) :
  DCall cx (.func (.func 34) [] [.ptr 0 0 0,.ptr 1 0 0]) (.pan (flt g) false) [xo x,xf e,(a.1,some a.2),(b.1,some b.2),(c.1,some c.2)] R :=
 dcall_recover (fun a w => Tryz.call34 a w) Tryz.func34 rfl Tryz.ntmps34 rfl rfl rfl rfl rfl rfl rfl fun B => by
  refine pB [.b true] rfl ?_
  refine S_drawC [xo .nils,xf e,(a.1,some a.2),(b.1,some b.2),(c.1,some c.2),xf g] 1 2 [] [.tup []] rfl rfl rfl rfl rfl ⟨rfl,rfl,rfl,rfl,rfl,rfl,lble rfl,rfl,rfl,trivial⟩ ?_
  refine pB [] rfl ?_
  exact S_nil ⟨_,_,rfl,trivial,_,rfl,h _⟩
theorem Split_ok (s : List UInt8) : Calc cx 18 [.str s] (splitAV (splitS s)) :=
 calc_of (splitAV_free _) (callOk_introD (fun a w => Tryz.call18 a w) Tryz.func18 rfl Tryz.ntmps18 rfl fun B hB => by
  unfold splitS
  by_cases hb : 6000 < s.length
  ·rw [if_pos hb]
   refine pB [.b true] rfl ?_
   refine S_ret ⟨_,rfl,_,_,rfl,⟨rfl,rfl,trivial⟩,_,rfl,?_⟩
   exact Fzs.tup (.cons .nils (.cons (.refl (flt_free (2,0))) .nil))
  ·rw [if_neg hb]
   refine pB [.b false] rfl ?_
   refine S_defer rfl rfl rfl rfl hB ?_
   refine go (M:=[11]) 5 rfl trivial ?_
   refine S_unfull (t:=11) rfl ⟨.skip,_,.inr ⟨_,_,_,rfl⟩⟩ ?_
   refine pB [] rfl ?_
   refine S_heap [xo .nils,xf (0,0),insB 0 [0],(0,some (.cells [.str s,.int .i64 0,.int .i64 0,.ms 2 0 0 1 1 false,.nils] ⟨false,some 75⟩))] rfl ?_
   refine S_ghost (id:=3) (j:=4) 4 ⟨false,none⟩ rfl rfl rfl (Nat.ne_of_lt (lble rfl)) ⟨.skip,_,.inr ⟨_,_,_,rfl⟩⟩ ?_
   refine S_callf [3,2,4] (all_ok 0 0 0 s (by omega)) rfl (.cons (.ptr rfl) (.nil _)) (Part.mk' (es:=[(0,some (.cells [.str s,.int .i64 0,.int .i64 0,.ms 2 0 0 1 1 false,.ms 4 0 0 0 4 false] ⟨false,some 75⟩)),insB 0 [0],outB 0 []]) rfl rfl
    (.cons (.live (.cells (.cons (.free .str) (.cons (.free .int) (.cons (.free .int) (.cons (.ms rfl) (.cons (.ms rfl) (.nil _)))))))) (.cons (.live (.cells (.free (ints_free [0])))) (.cons (.live (.cells (.nil _))) (.nil _))))) rfl rfl ?_ ?_
   ·intro y σ1 h
    cases hx : allF (s.length + 1) s 0 [0] [] with
    | inl e => rw [hx] at h; cases h.1
    | inr l =>
     rw [hx] at h
     obtain ⟨u,w,i,o,ins,h1,rfl⟩:=h
     cases h1
     refine ⟨.tup [],[(0,some (.cells [.str s,.int .i64 i,.int .i64 o,.ms 2 u 0 ins.length 1 false,.ms 4 w 0 l.length 4 false] ⟨false,some 75⟩)),insB u ins,outB w l],
      .cons (.live (.cells (.cons (.free .str) (.cons (.free .int) (.cons (.free .int) (.cons (.ms rfl) (.cons (.ms rfl) (.nil _)))))))) (.cons (.live (.cells (.free (ints_free ins)))) (.cons (.live (.cells (.free (tok_cells_free l)))) (.nil _))),.free (.tup (by simp)),?_⟩
     refine pB [] rfl ?_
     refine S_ret ⟨_,rfl,clos_ret (.ms 4 w 0 l.length 4 false) (0,0) (u,.cells (ints ins) ⟨false,none⟩) (0,.cells [.str s,.int .i64 i,.int .i64 o,.ms 2 u 0 ins.length 1 false,.ms 4 w 0 l.length 4 false] ⟨false,some 75⟩) (w,.cells (l.flatMap tokC) ⟨false,none⟩) _ fun y => ?_⟩
     refine ⟨_,_,rfl,⟨rfl,rfl,trivial⟩,_,rfl,Fzs.tup (.cons ?_ (.cons (.refl (flt_free (0,0))) .nil))⟩
     refine .ms rfl (by rw [tokC_len]; omega) ?_ ?_ (by simp) (toks_free l)
     ·rw [toks_cells,List.drop_zero,List.take_of_length_le (by rw [tokC_len]; omega)]
     ·intro x hx; obtain ⟨t,_,rfl⟩:=List.mem_map.1 hx; rfl
   ·intro y σ1 h
    cases hx : allF (s.length + 1) s 0 [0] [] with
    | inr l => rw [hx] at h; obtain ⟨_,_,_,_,_,h1,_⟩:=h; cases h1
    | inl e =>
     rw [hx] at h
     obtain ⟨h1,v,u,w,i,o,ins,out,rfl⟩:=h
     cases h1
     refine ⟨flt e,[(v,some (.cells [.str s,.int .i64 i,.int .i64 o,.ms 2 u 0 ins.length 1 false,.ms 4 w 0 out.length 4 false] ⟨false,some 75⟩)),insB u ins,outB w out],
      .cons (.live (.cells (.cons (.free .str) (.cons (.free .int) (.cons (.free .int) (.cons (.ms rfl) (.cons (.ms rfl) (.nil _)))))))) (.cons (.live (.cells (.free (ints_free ins)))) (.cons (.live (.cells (.free (tok_cells_free out)))) (.nil _))),.free (.iface (flt_free e)),?_⟩
     refine ⟨_,rfl,clos_pan .nils (0,0) e (u,.cells (ints ins) ⟨false,none⟩) (v,.cells [.str s,.int .i64 i,.int .i64 o,.ms 2 u 0 ins.length 1 false,.ms 4 w 0 out.length 4 false] ⟨false,some 75⟩) (w,.cells (out.flatMap tokC) ⟨false,none⟩) _ fun y => ?_⟩
     exact ⟨_,_,rfl,⟨rfl,rfl,trivial⟩,_,rfl,Fzs.tup (.cons .nils (.cons (.refl (flt_free e)) .nil))⟩)
end Go.Proofs.YtonjhfeabphaaaaGreatDoor
end
section
namespace Go.Ab
open Go
section
def drawOkP (ops : List Oper) (jc : Nat) : Bool :=
 allB ((List.range (jc + 1)).map fun j => match ops[j]? with
  | some o =>
   match allB ((slotsOf ops o).map fun t => readOk ops (jc + 1) j t) with
   | true => match o.dst with
    | some d => allB ((List.range (jc + 1)).map fun i => match eqDst (dstOf ops i) d with | true => Nat.beq i j | false => true)
    | none => true
   | false => false
  | none => false) &&
 allB ((List.range ops.length).map fun j => match Nat.blt jc j with
  | true => anyB ((List.range j).map fun k => match Nat.ble jc k with | true => edge ops j k | false => false)
  | false => true) &&
 allB ((List.range ops.length).map fun j => match ops[j]? with
  | some o => allB (o.after.toList.map fun e => match e.ground with
   | .textOnly _ => true
   | .gcOnly _ => true
   | _ => Nat.blt e.on j)
  | none => true)
theorem drawOkP_spec {ops : Array Oper} {jc : Nat} (h : drawOkP ops.toList jc = true) :
  (∀ j o t,j < jc + 1 → ops.toList[j]? = some o → t ∈ slotsOf ops.toList o → readOk ops.toList (jc + 1) j t = true) ∧
  (∀ i j d,i < jc + 1 → j < jc + 1 → dstOf ops.toList i = some d → dstOf ops.toList j = some d → i = j) ∧
  (∀ j,jc < j → j < ops.size → ∃ k,jc ≤ k ∧ k < j ∧ edge ops.toList j k = true) ∧ (∀ j i,edge ops.toList j i = true → i < j):=by
 unfold drawOkP at h
 simp only [Bool.and_eq_true] at h
 obtain ⟨⟨h1,h2⟩,h3⟩:=h
 refine ⟨fun j o t hj ho ht => ?_,fun i j d hi hj hdi hdj => ?_,fun j hj hjs => ?_,fun j i he => ?_⟩
 ·have:=allB_mem h1 _ (List.mem_map.2 ⟨j,List.mem_range.2 hj,rfl⟩)
  rw [ho] at this
  simp only at this
  split at this
  ·rename_i hb
   exact allB_mem hb _ (List.mem_map.2 ⟨t,ht,rfl⟩)
  ·cases this
 ·have:=allB_mem h1 _ (List.mem_map.2 ⟨j,List.mem_range.2 hj,rfl⟩)
  obtain ⟨o,ho,hod⟩:=Option.bind_eq_some_iff.1 hdj
  rw [ho] at this
  simp only at this
  split at this
  ·rw [hod] at this
   simp only at this
   have:=allB_mem this _ (List.mem_map.2 ⟨i,List.mem_range.2 hi,rfl⟩)
   rw [eqDst_iff.2 hdi] at this
   exact Nat.eq_of_beq_eq_true this
  ·cases this
 ·have:=allB_mem h2 _ (List.mem_map.2 ⟨j,List.mem_range.2 (by simpa using hjs),rfl⟩)
  rw [lt_blt hj] at this
  obtain ⟨k,hk,he⟩:=List.mem_map.1 (anyB_mem this)
  have hkm:=List.mem_range.1 hk
  split at he
  ·rename_i hb
   exact ⟨k,Nat.le_of_ble_eq_true hb,hkm,he⟩
  ·cases he
 ·obtain ⟨o,ho,e,hee,hb,rfl⟩:=edge_iff.1 he
  have hj:=(Array.getElem?_eq_some_iff.1 ho).1
  have:=allB_mem h3 _ (List.mem_map.2 ⟨j,List.mem_range.2 (by simpa using hj),rfl⟩)
  rw [Array.getElem?_toList,ho] at this
  have:=allB_mem this _ (List.mem_map.2 ⟨e,by simpa using hee,rfl⟩)
  unfold Region.binds at hb
  cases hg : e.ground <;> simp [hg] at hb this <;> omega
section
variable {cx : Cx} {n : Nat} {B : Bs} {k : List AI} {Q : Post} {fr : Fr} {σ : Heap}
theorem wpAny_pan {ops : Array Oper} {jc : Nat} {vals : List AV} {K : List Nat} {Q' : Exit → Act → World → Prop} (hjN : jc < ops.size) (hlen : vals.length = jc)
  (hread : ∀ j o t,j < jc + 1 → ops.toList[j]? = some o → t ∈ slotsOf ops.toList o → readOk ops.toList (jc + 1) j t = true)
  (huniq : ∀ i j d,i < jc + 1 → j < jc + 1 → dstOf ops.toList i = some d → dstOf ops.toList j = some d → i = j)
  (hbl : ∀ j,jc < j → j < ops.size → ∃ k,jc ≤ k ∧ k < j ∧ edge ops.toList j k = true) (hlo : ∀ j i,edge ops.toList j i = true → i < j)
  (hstep : ∀ (j : Nat) o v,j < jc → ops.toList[j]? = some o → vals[j]? = some v → StepD cx n ops σ K (restr ops.toList o (ovl (ops.toList.take j) (vals.take j) fr)) o v)
  (hpan : ∀ o,ops.toList[jc]? = some o → guardA ops o K (restr ops.toList o (ovl (ops.toList.take jc) vals fr)) = some true ∧
   ∀ r a w,Inv cx r σ w → FRel r w n (restr ops.toList o (ovl (ops.toList.take jc) vals fr)) a → FRel r w n [(n,fr.get n)] a → Dfs B a → Ext B.r B.σ B.w r σ w → o.wp cx.P a w (fun _ _ => False) Q') :
  ∀ (f : Nat) (listed : Array Bool) (r : Rl) (a : Act) (w : World),listed.size = ops.size → unl listed = f → Down ops.toList listed → (∀ j,jc ≤ j → ¬ Listed listed j) →
   FL r w n fr ops.toList jc vals listed a → Inv cx r σ w → Dfs B a → Ext B.r B.σ B.w r σ w → wpAny cx.P .any ops Q' f listed a w:=by
 have ovlN : ∀ i,i ≤ jc → ∀ vs,(ovl (ops.toList.take i) (vals.take i) fr).get n = .mark vs → fr.get n = .mark vs:=by
  intro i him vs hm
  rcases ovl_get (ops.toList.take i) (vals.take i) fr n (by simp [hlen]; omega) with ⟨i',o',v',k1,k2,k3,k4⟩ | ⟨k1,k2⟩
  ·exfalso
   have hi'i : i' < i:=by
    rcases Nat.lt_or_ge i' i with h' | h'
    ·exact h'
    ·rw [List.getElem?_eq_none (by simp; omega)] at k1; cases k1
   rw [List.getElem?_take_of_lt hi'i] at k1 k3
   have hds:=(hstep i' o' v' (by omega) k1 k3).1
   rw [k2] at hds
   have:=blt_lt hds
   omega
  ·rw [← k2]; exact hm
 intro f
 induction f with
 | zero =>
  intro listed r a w hs hf hdn hno hfl hi hd hx
  exfalso
  have h0 : listed.getD jc false = false:=by
   cases hb : listed.getD jc false with
   | false => rfl
   | true => exact absurd hb (hno jc (Nat.le_refl _))
  have:=unl_set (by omega) h0
  omega
 | succ f ih =>
  intro listed r a w hs hf hdn hno hfl hi hd hx
  refine ⟨fun h0 => ?_,fun i hir => ?_⟩
  ·obtain ⟨j,h1,h2,h3⟩:=exists_least (p:=fun j => ¬ Listed listed j) (jc + 1) ⟨jc,Nat.lt_succ_self _,hno jc (Nat.le_refl _)⟩
   have hjr : j ∈ Region.ready .any ops listed:=by
    refine mem_ready.2 ⟨?_,ops[j]'(by omega),Array.getElem?_eq_getElem _,fun e he hb => ?_⟩
    ·rw [listed_true (by omega)]; simpa [Listed] using h2
    ·have h4 : e.on < j:=hlo j e.on (edge_iff.2 ⟨ops[j]'(by omega),Array.getElem?_eq_getElem _,e,he,hb,rfl⟩)
     exact Classical.byContradiction fun h5 => h3 e.on h4 h5
   rw [h0] at hjr; cases hjr
  ·obtain ⟨h0,o,ho,hedges⟩:=mem_ready.1 hir
   have hilt:=(Array.getElem?_eq_some_iff.1 ho).1
   rw [listed_true (by omega)] at h0
   have hed : ∀ j,edge ops.toList i j = true → Listed listed j:=by
    intro j hj
    obtain ⟨o',ho',e,he,hb,hon⟩:=edge_iff.1 hj
    rw [ho] at ho'; cases ho'
    rw [← hon]; exact hedges e he hb
   have him : i < jc + 1:=by
    rcases Nat.lt_or_ge i (jc + 1) with h' | h'
    ·exact h'
    ·exfalso
     obtain ⟨k,k1,k2,k3⟩:=hbl i (by omega) hilt
     exact hno k k1 (hed k k3)
   have hol : ops.toList[i]? = some o:=by simpa using ho
   have hnl : ¬ Listed listed i:=by simp [Listed,h0]
   have hfr : FRel r w n (restr ops.toList o (ovl (ops.toList.take i) (vals.take i) fr)) a:=by
    refine ⟨hfl.size,fun t => ?_,fun vs hm => ?_⟩
    case refine_2 =>
     unfold restr at hm
     rcases restr_get (slotsOf ops.toList o) (ovl (ops.toList.take i) (vals.take i) fr) n with h | ⟨h1,h2⟩
     ·rw [h] at hm; cases hm
     ·rw [h2] at hm
      exact hfl.defs vs (ovlN i (by omega) vs hm)
    unfold restr
    rcases restr_get (slotsOf ops.toList o) (ovl (ops.toList.take i) (vals.take i) fr) t with h | ⟨h1,h2⟩
    ·rw [h]; exact .top
    ·rw [h2]
     have hro:=hread i o t him hol h1
     have hrd : ∀ i',i' < jc + 1 → dstOf ops.toList i' = some t → (i' < i → edge ops.toList i i' = true) ∧ (i < i' → edge ops.toList i' i = true):=by
      intro i' hi' hd'
      have:=allB_mem hro _ (List.mem_map.2 ⟨i',List.mem_range.2 hi',rfl⟩)
      rw [eqDst_iff.2 hd'] at this
      simp only at this
      constructor
      ·intro hlt
       rw [lt_blt hlt] at this
       exact this
      ·intro hlt
       rw [show Nat.blt i' i = false by cases hbb : Nat.blt i' i with | false => rfl | true => (have:=blt_lt hbb; omega),show Nat.beq i' i = false by cases hbb : Nat.beq i' i with | false => rfl | true => (have:=Nat.eq_of_beq_eq_true hbb; omega)] at this
       exact this
     rcases ovl_get (ops.toList.take i) (vals.take i) fr t (by simp [hlen]; omega) with ⟨i',o',v',k1,k2,k3,k4⟩ | ⟨k1,k2⟩
     ·rw [k4]
      have hi'i : i' < i:=by
       rcases Nat.lt_or_ge i' i with h' | h'
       ·exact h'
       ·rw [List.getElem?_eq_none (by simp; omega)] at k1; cases k1
      rw [List.getElem?_take_of_lt hi'i] at k1 k3
      have hd' : dstOf ops.toList i' = some t:=by simp only [dstOf,k1,Option.bind_some,k2]
      exact hfl.done i' t v' (by omega) (hed _ ((hrd i' (by omega) hd').1 hi'i)) hd' k3
     ·rw [k2]
      refine hfl.rest t (fun j hj hlj hdj => ?_)
      rcases Nat.lt_trichotomy j i with h' | h' | h'
      ·obtain ⟨oj,hoj,hod⟩:=Option.bind_eq_some_iff.1 hdj
       exact k1 j oj (by rw [List.getElem?_take_of_lt h']; exact hoj) hod
      ·subst h'; exact hnl hlj
      ·exact hnl (hdn j i hlj ((hrd j (by omega) hdj).2 h'))
   rcases Nat.lt_or_ge i jc with hij | hij
   case inr =>
    obtain rfl : i = jc:=by omega
    rw [show vals.take i = vals from List.take_of_length_le (by omega)] at hfr
    obtain ⟨hg,hp⟩:=hpan o hol
    have hfn : FRel r w n [(n,fr.get n)] a:=by
     refine ⟨hfl.size,fun t => ?_,fun vs hm => ?_⟩
     ·rw [Fr.get_cons]
      split
      ·rename_i hnt
       subst hnt
       have : a.tmps.getD n undef = undef:=by
        rw [Array.getD_eq_getD_getElem?,Array.getElem?_eq_none (by rw [hfl.size]; exact Nat.le_refl _)]; rfl
       refine hfl.rest n (fun j hj hlj hdj => ?_)
       obtain ⟨oj,hoj,hod⟩:=Option.bind_eq_some_iff.1 hdj
       obtain ⟨v,hv⟩ : ∃ v,vals[j]? = some v:=⟨vals[j]'(by omega),List.getElem?_eq_getElem _⟩
       have hds:=(hstep j oj v hj hoj hv).1
       rw [hod] at hds
       have:=blt_lt hds
       omega
      ·exact .top
     ·rw [Fr.get_cons,if_pos rfl] at hm
      exact hfl.defs vs hm
    unfold wpOp
    simp only [ho]
    rw [guardA_wanted (cx:=cx) hfr hg]
    simp only [if_true]
    exact .inl (Oper.wp_mono (fun a' w' h => h.elim) (hp r a w hi hfr hfn hd hx))
   obtain ⟨v,hv⟩ : ∃ v,vals[i]? = some v:=⟨vals[i]'(by omega),List.getElem?_eq_getElem _⟩
   obtain ⟨hdst,hst⟩:=hstep i o v hij hol hv
   have next : ∀ (r' : Rl) (w' : World) (v' : Value),VRel r' w' v' v → Inv cx r' σ w' → Ext r σ w r' σ w' → wpAny cx.P .any ops Q' f (listed.setIfInBounds i true) (a.put o.dst v') w':=by
    intro r' w' v' hv' hi' hx'
    have hun:=unl_set (by omega) h0
    refine ih _ r' _ w' (by simpa using hs) (by omega) (fun j l hj he => ?_) (fun j hj hl => ?_) ⟨?_,fun j d u hj hl hdj hu => ?_,fun t ht => ?_,fun vs hm => by rw [Act.put_defers]; exact (hfl.defs vs hm).mono (hx'.grow hi)⟩ hi' (hd.put _ _) (hx.trans hx')
    ·rw [listed_set (by omega)] at hj ⊢
     rcases hj with rfl | hj
     ·exact .inr (hed l he)
     ·exact .inr (hdn j l hj he)
    ·rw [listed_set (by omega)] at hl
     rcases hl with rfl | hl
     ·omega
     ·exact hno j hj hl
    ·cases hod : o.dst <;> simp [Act.put,hfl.size]
    ·have hg:=hx'.grow hi
     rw [listed_set (by omega)] at hl
     by_cases hji : j = i
     ·subst hji
      rw [hv] at hu; cases hu
      have hod : o.dst = some d:=by simpa [dstOf,hol] using hdj
      rw [hod]
      rw [hod] at hdst
      simp only [Act.put]
      rw [getD_setIfInBounds (by rw [hfl.size]; exact blt_lt hdst),if_pos rfl]
      exact hv'
     ·have hl':=hl.resolve_left hji
      have hold:=(hfl.done j d u hj hl' hdj hu).mono hg
      cases hod : o.dst with
      | none => exact hold
      | some d' =>
       have hne : d' ≠ d:=fun e => hji (huniq j i d (by omega) him hdj (by subst e; simp [dstOf,hol,hod]))
       rw [hod] at hdst
       simp only [Act.put]
       rw [getD_setIfInBounds (by rw [hfl.size]; exact blt_lt hdst),if_neg hne]
       exact hold
    ·have hg:=hx'.grow hi
     have hold:=(hfl.rest t (fun j hj hl => ht j hj ((listed_set (by omega)).2 (.inr hl)))).mono hg
     have hti:=ht i hij ((listed_set (by omega)).2 (.inl rfl))
     cases hod : o.dst with
     | none => exact hold
     | some d' =>
      have hne : d' ≠ t:=fun e => hti (by subst e; simp [dstOf,hol,hod])
      rw [hod] at hdst
      simp only [Act.put]
      rw [getD_setIfInBounds (by rw [hfl.size]; exact blt_lt hdst),if_neg hne]
      exact hold
   unfold wpOp
   simp only [ho]
   rcases hst with ⟨hg,rfl⟩ | ⟨hg,hgo⟩
   ·rw [guardA_wanted (cx:=cx) hfr hg]
    simp only [Bool.false_eq_true,if_false]
    exact next r w undef (.tup rfl (fun i h => absurd h (by simp))) hi (Ext.refl _ _ _)
   ·rw [guardA_wanted (cx:=cx) hfr hg]
    simp only [if_true]
    refine .inl (Oper.wp_mono (fun a' w' h => ?_) (hgo r a w hi hfr Q'))
    obtain ⟨r',v',rfl,h2,h3,h4⟩:=h
    exact next r' w' v' h2 h3 h4
theorem S_drawP {id : Nat} {R : Out → Heap → Prop} (jc : Nat) {ops : Array Oper} {vals : List AV} {C : List Prop} {fr' : Fr} (K : List Nat) (rs : List AV) {o : Oper} {f : FuncId} {args : List AV} (hP : cx.P.follows .mixedOrders = true) (hchk : drawOkP ops.toList jc = true)
  (hrun : normC (runD cx K n ops ops.toList σ (ops.toList.take jc) fr rs) = some (C,vals,fr')) (ho : ops.toList[jc]? = some o) (hg : guardA ops o K (restr ops.toList o fr') = some true) (hc : callA cx (restr ops.toList o fr') o.op = some (f,args)) (hC : AllP C)
  (hcall : CallOk cx f args σ R) (hr : ∀ v s,¬ R (.ret v) s) (hk : ∀ v s fr,R (.panic v) s → Q (.panic v) fr s) : S cx n B (.code (.region id ops true) :: k) Q fr σ:=by
 intro r a w hi hf hd hx
 obtain ⟨c1,c2,c3,c4⟩:=drawOkP_spec hchk
 rw [normC_eq] at hrun
 obtain ⟨k1,k2,k3⟩:=runD_spec hrun hC
 have hjN : jc < ops.size:=by
  rcases Nat.lt_or_ge jc ops.size with h | h
  ·exact h
  ·rw [List.getElem?_eq_none (by simpa using h)] at ho; cases ho
 have hlen : vals.length = jc:=by rw [k1]; simp; omega
 obtain ⟨hi1,hx1⟩:=hi.heap_eq (w':={ w with drawn:=w.drawn + 1 }) rfl rfl rfl rfl
 have hf1:=hf.mono (hx1.grow hi)
 have nl : ∀ {j : Nat},¬ Listed (Array.replicate ops.size false) j:=by
  intro j hj
  unfold Listed at hj
  rw [Array.getD_eq_getD_getElem?,Array.getElem?_replicate] at hj
  split at hj <;> simp at hj
 refine wp_region_any hP ?_
 refine wpAny_pan (cx:=cx) (n:=n) (B:=B) (fr:=fr) (σ:=σ) (jc:=jc) (vals:=vals) (K:=K) hjN hlen c1 c2 c3 c4 (fun j o v hj ho hv => ?_) (fun o' ho' => ?_) ops.size _ r a _ (by simp) ?_ (fun j i hj => ?_) (fun j _ => ?_) ⟨hf1.size,fun j d v _ hj => ?_,fun t _ => hf1.get t,hf1.defs⟩ hi1 hd (hx.trans hx1)
 ·have h:=k3 j o v (by rw [List.getElem?_take_of_lt hj]; exact ho) hv
  rw [List.take_take,Nat.min_eq_left (by omega)] at h
  exact h
 ·rw [ho] at ho'; cases ho'
  rw [← k2]
  refine ⟨hg,fun r a w hi hf hfn hdf hx => ?_⟩
  obtain ⟨vs,h1,h2⟩:=callA_run hi hf hc hcall.1
  unfold Oper.wp
  rw [h1,Oper.upon_enter]
  refine (hcall.2 r w vs hi h2).mono fun e w' ⟨out,σ1,r',hR,hor,hi',hx'⟩ => ?_
  have hg':=hx'.grow hi
  cases e <;> cases out <;> first | exact hor.elim | skip
  ·exact absurd hR (hr _ _)
  ·refine Lift.mk (ae:=.panic _) ?_ hor hi' (hfn.mono hg') hdf (hx.trans hx')
   rw [after_panic]
   exact hk _ _ _ hR
 ·unfold unl; simp [List.countP_replicate]
 ·exact absurd hj nl
 ·exact nl
 ·exact absurd hj nl
theorem S_shareR {k' : List AI} {all : Array Oper} {l : List Oper} {K : List Nat} (F : Fr) (σ' : Heap) (hm : (∀ fr,Weak fr F → S cx n B (.ops all l K :: k') Q fr σ') → S cx n B k Q fr σ) (hk : S cx n B (.ops all l K :: k') Q F σ') : S cx n B k Q fr σ :=
 hm fun _ hw => S_ops_weak hw hk
theorem S_shareG {ι : Type} {c : Code} {k' : List AI} (F : Fr) (σ' : ι → Heap) (I : ι → Prop) (hm : (∀ i fr,I i → Weak fr F → S cx n B (.code c :: k') Q fr (σ' i)) → S cx n B k Q fr σ) (hk : ∀ i,I i → S cx n B (.code c :: k') Q F (σ' i)) : S cx n B k Q fr σ :=
 hm fun i _ hi hw => S_code_weak hw (hk i hi)
inductive Wv : AV → AV → Prop
 | refl {a} : Wv a a
 | nils {st fl sz} : Wv .nils (.sl st fl sz [])
 | sl {st fl st' fl' sz xs} (h1 : st' = true → st = true) (h2 : fl' = true → fl = true) : Wv (.sl st fl sz xs) (.sl st' fl' sz xs)
theorem Wv.rel {r : Rl} {w : World} {v : Value} {a a' : AV} (h : Wv a a') (hv : VRel r w v a) : VRel r w v a':=by
 cases h with
 | refl => exact hv
 | nils => cases hv; exact .sl0 (fun _ => rfl)
 | sl h1 h2 =>
  cases hv with
  | sl0 hf => exact .sl0 (fun h => hf (h2 h))
  | sl hn hc0 hf hI hS hsz f hc hv => exact .sl hn hc0 (fun h => hf (h2 h)) hI (fun h => hS (h1 h)) hsz f hc hv
theorem Wv.one {a a' : AV} (h : Wv a a') (ho : a.one = true) : a'.one = true:=by
 cases h with
 | refl => exact ho
 | nils => rfl
 | sl _ _ => rfl
inductive Wvs : List AV → List AV → Prop
 | nil : Wvs [] []
 | cons {a b az bs} (h : Wv a b) (hs : Wvs az bs) : Wvs (a :: az) (b :: bs)
theorem Wvs.len {az bs : List AV} (h : Wvs az bs) : az.length = bs.length:=by
 induction h with
 | nil => rfl
 | cons _ _ ih => simp [ih]
theorem Wvs.get {az bs : List AV} (h : Wvs az bs) : ∀ (i : Nat) (h1 : i < az.length) (h2 : i < bs.length),Wv az[i] bs[i]:=by
 induction h with
 | nil => intro i h1; simp at h1
 | cons h hs ih =>
  intro i h1 h2
  cases i with
  | zero => exact h
  | succ i => exact ih i (by simpa using h1) (by simpa using h2)
theorem S_wkB {todo : List AI} {cur : Nat} {cs : List AV} {ty : Option TypeId} (id : Nat) (cs' : List AV) (h : σ[id]? = some (cur,some (.cells cs ⟨false,ty⟩))) (hw : Wvs cs cs') (hT : ∃ c k,todo = .code c :: k ∨ ∃ all l K,todo = .ops all l K :: k)
  (hk : S cx n B todo Q fr (σ.set id (cur,some (.cells cs' ⟨false,ty⟩)))) : S cx n B todo Q fr σ:=by
 have key : ∀ r w,Inv cx r σ w → Inv cx r (σ.set id (cur,some (.cells cs' ⟨false,ty⟩))) w ∧ Ext r σ w r (σ.set id (cur,some (.cells cs' ⟨false,ty⟩))) w:=by
  intro r w hi
  refine hi.recast h (fun b o hb => ?_) (fun ro hro => by cases hro; cases hw; exact ⟨_,rfl⟩)
  obtain ⟨c,t,lo,hi,h1,h2,h3,h4,h5⟩:=hb
  refine ⟨c,t,lo,hi,h1,fun i hil => ?_,fun x hx => ?_,fun i a b c => (by cases (h4 i a b c).1),h5⟩
  ·have hil' : i < cs.length:=by rw [hw.len]; exact hil
   obtain ⟨v,k1,k2⟩:=h2 i hil'
   exact ⟨v,k1,(hw.get i hil' hil).rel k2⟩
  ·obtain ⟨i,hi',rfl⟩:=List.getElem_of_mem hx
   exact (hw.get i (by rw [hw.len]; exact hi') hi').one (h3 _ (List.getElem_mem _))
 obtain ⟨c,k,hT⟩:=hT
 rcases hT with rfl | ⟨all,l,K,rfl⟩
 ·intro r a w hi hf hd hx
  obtain ⟨q1,q2⟩:=key r w hi
  exact hk r a w q1 (hf.mono (q2.grow hi)) hd (hx.trans q2)
 ·intro r a w hi hf hd hx
  obtain ⟨q1,q2⟩:=key r w hi
  exact hk r a w q1 (hf.mono (q2.grow hi)) hd (hx.trans q2)
theorem S_wkF {todo : List AI} {az : List AV} (t : Nat) (bs : List AV) (h : fr.get t = .agg az) (hw : Wvs az bs) (hT : ∃ c k,todo = .code c :: k ∨ ∃ all l K,todo = .ops all l K :: k)
  (hk : S cx n B todo Q ((t,.agg bs) :: fr) σ) : S cx n B todo Q fr σ:=by
 have key : ∀ r w a,FRel r w n fr a → FRel r w n ((t,.agg bs) :: fr) a:=by
  intro r w a hf
  refine ⟨hf.size,fun s => ?_,fun vs hm => ?_⟩
  ·rw [Fr.get_cons]
   split
   ·rename_i hs
    subst hs
    have hv:=hf.get t
    rw [h] at hv
    generalize a.tmps.getD t undef = z at hv
    cases hv with
    | agg hn hc => exact .agg (by rw [hn,hw.len]) (fun i hi => (hw.get i (by rw [hw.len]; exact hi) hi).rel (hc i (by rw [hw.len]; exact hi)))
   ·exact hf.get s
  ·rw [Fr.get_cons] at hm
   split at hm
   ·cases hm
   ·exact hf.defs vs hm
 obtain ⟨c,k,hT⟩:=hT
 rcases hT with rfl | ⟨all,l,K,rfl⟩
 ·exact fun r a w hi hf hd hx => hk r a w hi (key r w a hf) hd hx
 ·exact fun r a w hi hf hd hx => hk r a w hi (key r w a hf) hd hx
end
end
end Go.Ab
end
section
namespace Go.Proofs.YtonjhfeabphaaaaGreatDoor
open Go Go.Ab
mutual
def exA : Ex → AV
 | .mk k n t ks ns => .agg [.int .i64 (k : Nat),.int .i64 (n : Nat),.str t,.sl true false 5 (exL ks),.sl true false 1 (texts ns)]
 termination_by structural x => x
def exL : List Ex → List AV
 | [] => []
 | x :: r => exA x :: exL r
 termination_by structural x => x
end
mutual
def stA : St → AV
 | .mk k t ns x b e => .agg ([.int .i64 (k : Nat),.str t,.sl true false 1 (texts ns)] ++ ((exA x).cells ++ [.sl true false 10 (stL b),.sl true false 10 (stL e)]))
 termination_by structural x => x
def stL : List St → List AV
 | [] => []
 | x :: r => stA x :: stL r
 termination_by structural x => x
end
theorem textsF {st : Bool} (l : List (List UInt8)) : ∀ x ∈ texts l,Free st x:=by
 intro x hx; obtain ⟨t,_,rfl⟩:=List.mem_map.1 hx; exact .str
mutual
theorem exA_free {st : Bool} : ∀ x : Ex,Free st (exA x)
 | .mk k n t ks ns => .agg (by
  intro y hy
  simp only [List.mem_cons,List.not_mem_nil,or_false] at hy
  rcases hy with rfl | rfl | rfl | rfl | rfl
  ·exact .int
  ·exact .int
  ·exact .str
  ·exact .sl (fun _ => rfl) (exL_free ks)
  ·exact .sl (fun _ => rfl) (textsF ns))
theorem exL_free {st : Bool} : ∀ l : List Ex,∀ y ∈ exL l,Free st y
 | [],y,h => by simp [exL] at h
 | x :: r,y,h => by
  rw [exL,List.mem_cons] at h
  rcases h with rfl | h
  ·exact exA_free x
  ·exact exL_free r y h
end
theorem exA_cells (x : Ex) : (exA x).cells.length = 5:=by cases x; rfl
theorem cells_free {st : Bool} {a : AV} (h : Free st a) : ∀ x ∈ a.cells,Free st x:=by
 cases a with
 | agg cs => cases h; assumption
 | _ => intro x hx; simp only [AV.cells,List.mem_singleton] at hx; subst hx; exact h
mutual
theorem stA_free {st : Bool} : ∀ x : St,Free st (stA x)
 | .mk k t ns x b e => .agg (by
  intro y hy
  simp only [List.mem_append,List.mem_cons,List.not_mem_nil,or_false] at hy
  rcases hy with (rfl | rfl | rfl) | hy | rfl | rfl
  ·exact .int
  ·exact .str
  ·exact .sl (fun _ => rfl) (textsF ns)
  ·exact cells_free (exA_free x) y hy
  ·exact .sl (fun _ => rfl) (stL_free b)
  ·exact .sl (fun _ => rfl) (stL_free e))
theorem stL_free {st : Bool} : ∀ l : List St,∀ y ∈ stL l,Free st y
 | [],y,h => by simp [stL] at h
 | x :: r,y,h => by
  rw [stL,List.mem_cons] at h
  rcases h with rfl | h
  ·exact stA_free x
  ·exact stL_free r y h
end
theorem exL_map (l : List Ex) : exL l = l.map exA:=by
 induction l with
 | nil => rfl
 | cons x r ih => rw [exL,ih]; rfl
theorem stL_map (l : List St) : stL l = l.map stA:=by
 induction l with
 | nil => rfl
 | cons x r ih => rw [stL,ih]; rfl
def psB (v : Nat) (l r : List Tok) (e b d n : Nat) : Nat × Option Box:=(v,some (.cells [.sl true false 4 (l.map tokA),.int .i64 ((l.length - r.length : Nat) : Int),.int .i64 (e : Nat),.int .i64 (b : Nat),.int .i64 (d : Nat),.int .i64 (n : Nat)] ⟨false,some 44⟩))
def psH (v : Nat) (l r : List Tok) (e b d n : Nat) : Heap:=[psB v l r e b d n]
def psI (v : Nat) (l : List Tok) (a e b d n : Int) : Nat × Option Box:=(v,some (.cells [.sl true false 4 (l.map tokA),.int .i64 a,.int .i64 e,.int .i64 b,.int .i64 d,.int .i64 n] ⟨false,some 44⟩))
theorem suf_get {l u : List Tok} {t : Tok} (h : t :: u <:+ l) : (l.map tokA)[(((l.length - (t :: u).length : Nat) : Nat) : Int).toNat]? = some (tokA t):=by
 obtain ⟨p,rfl⟩:=h
 rw [Int.toNat_natCast]
 simp
theorem suf_lt {l u : List Tok} {t : Tok} (h : t :: u <:+ l) : l.length - (t :: u).length < l.length:=by
 have:=h.length_le; simp at this ⊢; omega
theorem suf_next {l u : List Tok} {t : Tok} (h : t :: u <:+ l) (hl : l.length ≤ 100000) : IntKind.i64.wrap (((l.length - (t :: u).length : Nat) : Int) + 1) = ((l.length - u.length : Nat) : Int):=by
 have:=h.length_le
 rw [List.length_cons] at this ⊢
 rw [IntWalk.i64_in _ ⟨by omega,by omega⟩]; omega
theorem suf_tail {l u : List Tok} {t : Tok} (h : t :: u <:+ l) : u <:+ l:=(List.suffix_cons t u).trans h
theorem kind_ok (v : Nat) (l r : List Tok) (e b d n : Nat) (hr : r <:+ l) (hl : l.length ≤ 100000) :
  CallOk cx 81 [.ptr 0 v 0] (psH v l r e b d n) (fun o σ => o = .ret (.int .i64 (hdK r : Nat)) ∧ σ = psH v l r e b d n) :=
 callOk_intro (fun a w => Tryz.call81 a w) Tryz.func81 rfl Tryz.ntmps81 rfl fun B => by
  have hml : (l.map tokA).length = l.length:=by simp
  cases r with
  | nil =>
   refine pa [.b false] rfl ?_ ?_
   ·(repeat' with_reducible apply AllP_cons) <;> try exact aC
    exact decide_eq_false (by rw [hml]; simp)
   exact S_ret ⟨_,_,rfl,trivial,rfl,rfl⟩
  | cons t u =>
   have hg:=suf_get hr
   have ht:=suf_lt hr
   refine pB [.b true,.v (tokA t)] rfl ?_
   exact S_ret ⟨_,_,rfl,trivial,rfl,rfl⟩
theorem place_ok (v : Nat) (l r : List Tok) (e b d n : Nat) (hr : r <:+ l) (hl : l.length ≤ 100000) :
  CallOk cx 115 [.ptr 0 v 0] (psH v l r e b d n) (fun o σ => o = .ret (.int .i64 (placeS e r : Nat)) ∧ σ = psH v l r e b d n) :=
 callOk_intro (fun a w => Tryz.call115 a w) Tryz.func115 rfl Tryz.ntmps115 rfl fun B => by
  have hml : (l.map tokA).length = l.length:=by simp
  cases r with
  | nil =>
   refine pa [.b false] rfl ?_ ?_
   ·(repeat' with_reducible apply AllP_cons) <;> try exact aC
    exact decide_eq_false (by rw [hml]; simp)
   exact S_ret ⟨_,_,rfl,trivial,rfl,rfl⟩
  | cons t u =>
   have hg:=suf_get hr
   have ht:=suf_lt hr
   refine pB [.b true,.v (tokA t)] rfl ?_
   exact S_ret ⟨_,_,rfl,trivial,rfl,rfl⟩
theorem pfail_ok (v : Nat) (l r : List Tok) (e b d n k : Nat) (hr : r <:+ l) (hl : l.length ≤ 100000) :
  CallOk cx 82 [.ptr 0 v 0,.int .i64 (k : Nat)] (psH v l r e b d n) (fun o σ => o = .panic (flt (k,placeS e r)) ∧ σ = psH v l r e b d n) :=
 callOk_intro (fun a w => Tryz.call82 a w) Tryz.func82 rfl Tryz.ntmps82 rfl fun B => by
  refine pa [.k (.int .i64 (placeS e r : Nat))] rfl ?_ ?_
  ·(repeat' with_reducible apply AllP_cons) <;> try exact aC
   exact place_ok v l r e b d n hr hl
  exact S_panic rfl rfl rfl ⟨rfl,rfl⟩
end Go.Proofs.YtonjhfeabphaaaaGreatDoor
end
