/-
  Texts of our own, in one file.
-/
import Derived.Test.YtfpdfpdlekngfaaDoorGrpB
import Derived.LaidEql
import Derived.Test.YtfpdfpdlekngfaaDoorProg
import Derived.KernelRfl
section
set_option linter.unusedVariables false
set_option linter.unusedSimpArgs false
namespace Go.Ab
open Go
def StepX (cx : Cx) (n : Nat) (all : Array Oper) (σ σ' : Heap) (K : List Nat) (fr : Fr) (o : Oper) (v : AV) : Prop :=
  dstOk n o.dst = true ∧ ((guardA all o K fr = some false ∧ v = .tup [] ∧ σ' = σ) ∨ (guardA all o K fr = some true ∧ ∀ r a w, Inv cx r σ w → FRel r w n fr a → ∀ Q, o.wp cx.P a w (fun a' w' => ∃ r' v', a' = a.put o.dst v' ∧ VRel r' w' v' v ∧ Inv cx r' σ' w' ∧ Ext r σ w r' σ' w') Q))
theorem StepD.x {cx : Cx} {n : Nat} {all : Array Oper} {σ : Heap} {K : List Nat} {fr : Fr} {o : Oper} {v : AV} (h : StepD cx n all σ K fr o v) : StepX cx n all σ σ K fr o v := by
  refine ⟨h.1, ?_⟩
  rcases h.2 with ⟨h1, h2⟩ | h1
  · exact .inl ⟨h1, h2, rfl⟩
  · exact .inr h1
def hpC (σ σ' : Heap) (jc : Nat) (listed : Array Bool) : Heap := bif listed.getD jc false then σ' else σ
theorem hpC_in {σ σ' : Heap} {jc : Nat} {listed : Array Bool} (h : Listed listed jc) : hpC σ σ' jc listed = σ' := by
  have h : listed.getD jc false = true := h
  unfold hpC; rw [h]; rfl
theorem hpC_out {σ σ' : Heap} {jc : Nat} {listed : Array Bool} (h : listed.getD jc false = false) : hpC σ σ' jc listed = σ := by
  unfold hpC; rw [h]; rfl
theorem hpC_set {σ σ' : Heap} {i : Nat} {listed : Array Bool} (h : i < listed.size) : hpC σ σ' i (listed.setIfInBounds i true) = σ' :=
  hpC_in ((listed_set h).2 (.inl rfl))
theorem hpC_same {σ σ' : Heap} {i jc : Nat} {listed : Array Bool} (h : i < listed.size) (hn : i ≠ jc) : hpC σ σ' jc (listed.setIfInBounds i true) = hpC σ σ' jc listed := by
  unfold hpC
  have : (listed.setIfInBounds i true).getD jc false = listed.getD jc false := by
    simp only [Array.getD_eq_getD_getElem?, Array.getElem?_setIfInBounds, if_neg hn]
  rw [this]
section
variable {cx : Cx} {n : Nat} {B : Bs} {k : List AI} {Q : Post} {fr : Fr} {σ : Heap}
theorem wpAny_frontC {σ' : Heap} {jc : Nat} {ops : Array Oper} {m : Nat} {vals : List AV} {K : List Nat} {Q' : Exit → Act → World → Prop} (hjc : jc < m) (hmN : m ≤ ops.size) (hlen : vals.length = m)
    (hread : ∀ j o t, j < m → ops.toList[j]? = some o → t ∈ slotsOf ops.toList o → readOk ops.toList m j t = true)
    (huniq : ∀ i j d, i < m → j < m → dstOf ops.toList i = some d → dstOf ops.toList j = some d → i = j)
    (hch : ∀ j, m < j → j < ops.size → edge ops.toList j (j - 1) = true) (hlo : ∀ j i, edge ops.toList j i = true → i < j)
    (hcl : m < ops.size → ∀ i, i < m → ∃ k, i < k ∧ k ≤ m ∧ edge ops.toList k i = true)
    (hstep : ∀ (j : Nat) o v, j < m → ops.toList[j]? = some o → vals[j]? = some v → (j ≠ jc → ∀ b : Bool, StepX cx n ops (bif b then σ' else σ) (bif b then σ' else σ) K (restr ops.toList o (ovl (ops.toList.take j) (vals.take j) fr)) o v) ∧ (j = jc → StepX cx n ops σ σ' K (restr ops.toList o (ovl (ops.toList.take j) (vals.take j) fr)) o v))
    (hend : ∀ r a w, Inv cx r σ' w → FRel r w n (ovl (ops.toList.take m) vals fr) a → Dfs B a → Ext B.r B.σ B.w r σ' w → wpList cx.P ops Q' (ops.toList.drop m) a w) :
    ∀ (f : Nat) (listed : Array Bool) (r : Rl) (a : Act) (w : World), listed.size = ops.size → unl listed = f → Down ops.toList listed → (∀ j, m ≤ j → ¬ Listed listed j) →
      FL r w n fr ops.toList m vals listed a → Inv cx r (hpC σ σ' jc listed) w → Dfs B a → Ext B.r B.σ B.w r (hpC σ σ' jc listed) w → wpAny cx.P .any ops Q' f listed a w := by
  have ovlN : ∀ i, i ≤ m → ∀ vs, (ovl (ops.toList.take i) (vals.take i) fr).get n = .mark vs → fr.get n = .mark vs := by
    intro i him vs hm
    rcases ovl_get (ops.toList.take i) (vals.take i) fr n (by simp [hlen]; omega) with ⟨i', o', v', k1, k2, k3, k4⟩ | ⟨k1, k2⟩
    · exfalso
      have hi'i : i' < i := by
        rcases Nat.lt_or_ge i' i with h' | h'
        · exact h'
        · rw [List.getElem?_eq_none (by simp; omega)] at k1; cases k1
      rw [List.getElem?_take_of_lt hi'i] at k1 k3
      have hds : dstOk n o'.dst = true := by
        by_cases hij : i' = jc
        · exact ((hstep i' o' v' (by omega) k1 k3).2 hij).1
        · exact ((hstep i' o' v' (by omega) k1 k3).1 hij false).1
      rw [k2] at hds
      have := blt_lt hds
      omega
    · rw [← k2]; exact hm
  have fin : ∀ (f : Nat) (listed : Array Bool) (r : Rl) (a : Act) (w : World), listed.size = ops.size → unl listed = f → (∀ j, j < m → Listed listed j) → (∀ j, m ≤ j → ¬ Listed listed j) →
      FL r w n fr ops.toList m vals listed a → Inv cx r (hpC σ σ' jc listed) w → Dfs B a → Ext B.r B.σ B.w r (hpC σ σ' jc listed) w → wpAny cx.P .any ops Q' f listed a w := by
    intro f listed r a w hs hf hall hno hfl hi hd hx
    rw [hpC_in (hall jc hjc)] at hi hx
    have hcount : unl listed + m = ops.size := by
      have hl : listed.toList = List.replicate m true ++ List.replicate (ops.size - m) false := by
        apply List.ext_getElem
        · simp; omega
        · intro j h1 h2
          have hj : j < listed.size := by simpa using h1
          have h3 : listed.getD j false = listed.toList[j] := by simp [Array.getD_eq_getD_getElem?, hj]
          by_cases hjm : j < m
          · rw [List.getElem_append_left (by simpa using hjm), List.getElem_replicate, ← h3]; exact hall j hjm
          · rw [List.getElem_append_right (by simp; omega), List.getElem_replicate, ← h3]
            have := hno j (by omega)
            unfold Listed at this
            simpa using this
      unfold unl
      rw [hl, List.countP_append, List.countP_replicate, List.countP_replicate]
      simp; omega
    refine wpAny_tail hch hlo f m listed a w (by omega) (Nat.le_refl m) hs (fun i hi' => ⟨fun h => ?_, fun h => hall i h⟩) (hend r a w hi ⟨hfl.size, fun t => ?_, fun vs hm => ?_⟩ hd hx)
    case refine_3 =>
      refine hfl.defs vs (ovlN m (Nat.le_refl _) vs ?_)
      rw [show vals.take m = vals from List.take_of_length_le (by omega)]
      exact hm
    · rcases Nat.lt_or_ge i m with h' | h'
      · exact h'
      · exact absurd h (hno i h')
    · rcases ovl_get (ops.toList.take m) vals fr t (by simp [hlen]; omega) with ⟨i, o, v, h1, h2, h3, h4⟩ | ⟨h1, h2⟩
      · rw [h4]
        have him : i < m := by
          rcases Nat.lt_or_ge i m with h' | h'
          · exact h'
          · rw [List.getElem?_eq_none (by simp; omega)] at h1; cases h1
        rw [List.getElem?_take_of_lt him] at h1
        exact hfl.done i t v him (hall i him) (by simp [dstOf, h1, h2]) h3
      · rw [h2]
        refine hfl.rest t (fun j hj _ hdj => ?_)
        obtain ⟨o, ho, hod⟩ := Option.bind_eq_some_iff.1 hdj
        exact h1 j o (by rw [List.getElem?_take_of_lt hj]; exact ho) hod
  intro f
  induction f with
  | zero =>
    intro listed r a w hs hf hdn hno hfl hi hd hx
    refine fin 0 listed r a w hs hf (fun j hj => ?_) hno hfl hi hd hx
    rcases hb : listed.getD j false with _ | _
    · have := unl_set (by omega) hb
      omega
    · exact hb
  | succ f ih =>
    intro listed r a w hs hf hdn hno hfl hi hd hx
    by_cases hall : ∀ j, j < m → Listed listed j
    · exact fin (f + 1) listed r a w hs hf hall hno hfl hi hd hx
    have hex : ∃ j, j < m ∧ ¬ Listed listed j := by
      apply Classical.byContradiction
      intro h
      exact hall (fun j hj => Classical.byContradiction fun hl => h ⟨j, hj, hl⟩)
    refine ⟨fun h0 => ?_, fun i hir => ?_⟩
    · obtain ⟨j, h1, h2, h3⟩ := exists_least m hex
      have hjr : j ∈ Region.ready .any ops listed := by
        refine mem_ready.2 ⟨?_, ops[j]'(by omega), Array.getElem?_eq_getElem _, fun e he hb => ?_⟩
        · rw [listed_true (by omega)]; simpa [Listed] using h2
        · have h4 : e.on < j := hlo j e.on (edge_iff.2 ⟨ops[j]'(by omega), Array.getElem?_eq_getElem _, e, he, hb, rfl⟩)
          exact Classical.byContradiction fun h5 => h3 e.on h4 h5
      rw [h0] at hjr; cases hjr
    · obtain ⟨h0, o, ho, hedges⟩ := mem_ready.1 hir
      have hilt := (Array.getElem?_eq_some_iff.1 ho).1
      rw [listed_true (by omega)] at h0
      have hed : ∀ j, edge ops.toList i j = true → Listed listed j := by
        intro j hj
        obtain ⟨o', ho', e, he, hb, hon⟩ := edge_iff.1 hj
        rw [ho] at ho'; cases ho'
        rw [← hon]; exact hedges e he hb
      have him : i < m := by
        rcases Nat.lt_or_ge i m with h' | h'
        · exact h'
        · exfalso
          rcases Nat.eq_or_lt_of_le h' with h'' | h''
          · subst h''
            refine hall (fun j hj => ?_)
            have key : ∀ d j, d + j = m → j < m → Listed listed j := by
              intro d
              induction d using Nat.strongRecOn with
              | _ d ihd =>
                intro j hdj hj
                obtain ⟨k, h1, h2, h3⟩ := hcl hilt j hj
                rcases Nat.eq_or_lt_of_le h2 with h4 | h4
                · subst h4; exact hed j h3
                · exact hdn k j (ihd (m - k) (by omega) k (by omega) h4) h3
            exact key (m - j) j (by omega) hj
          · exact hno (i - 1) (by omega) (hed _ (hch i h'' hilt))
      have hol : ops.toList[i]? = some o := by simpa using ho
      obtain ⟨v, hv⟩ : ∃ v, vals[i]? = some v := ⟨vals[i]'(by omega), List.getElem?_eq_getElem _⟩
      have hX : StepX cx n ops (hpC σ σ' jc listed) (hpC σ σ' jc (listed.setIfInBounds i true)) K (restr ops.toList o (ovl (ops.toList.take i) (vals.take i) fr)) o v := by
        by_cases hij : i = jc
        · subst hij
          rw [hpC_out h0, hpC_set (by omega)]
          exact (hstep i o v him hol hv).2 rfl
        · rw [hpC_same (by omega) hij]
          exact (hstep i o v him hol hv).1 hij (listed.getD jc false)
      obtain ⟨hdst, hst⟩ := hX
      have hnl : ¬ Listed listed i := by simp [Listed, h0]
      have hfr : FRel r w n (restr ops.toList o (ovl (ops.toList.take i) (vals.take i) fr)) a := by
        refine ⟨hfl.size, fun t => ?_, fun vs hm => ?_⟩
        case refine_2 =>
          unfold restr at hm
          rcases restr_get (slotsOf ops.toList o) (ovl (ops.toList.take i) (vals.take i) fr) n with h | ⟨h1, h2⟩
          · rw [h] at hm; cases hm
          · rw [h2] at hm
            exact hfl.defs vs (ovlN i (by omega) vs hm)
        unfold restr
        rcases restr_get (slotsOf ops.toList o) (ovl (ops.toList.take i) (vals.take i) fr) t with h | ⟨h1, h2⟩
        · rw [h]; exact .top
        · rw [h2]
          have hro := hread i o t him hol h1
          have hrd : ∀ i', i' < m → dstOf ops.toList i' = some t → (i' < i → edge ops.toList i i' = true) ∧ (i < i' → edge ops.toList i' i = true) := by
            intro i' hi' hd'
            have := allB_mem hro _ (List.mem_map.2 ⟨i', List.mem_range.2 hi', rfl⟩)
            rw [eqDst_iff.2 hd'] at this
            simp only at this
            constructor
            · intro hlt
              rw [lt_blt hlt] at this
              exact this
            · intro hlt
              rw [show Nat.blt i' i = false by cases hbb : Nat.blt i' i with | false => rfl | true => (have := blt_lt hbb; omega), show Nat.beq i' i = false by cases hbb : Nat.beq i' i with | false => rfl | true => (have := Nat.eq_of_beq_eq_true hbb; omega)] at this
              exact this
          rcases ovl_get (ops.toList.take i) (vals.take i) fr t (by simp [hlen]; omega) with ⟨i', o', v', k1, k2, k3, k4⟩ | ⟨k1, k2⟩
          · rw [k4]
            have hi'i : i' < i := by
              rcases Nat.lt_or_ge i' i with h' | h'
              · exact h'
              · rw [List.getElem?_eq_none (by simp; omega)] at k1; cases k1
            rw [List.getElem?_take_of_lt hi'i] at k1 k3
            have hd' : dstOf ops.toList i' = some t := by simp only [dstOf, k1, Option.bind_some, k2]
            exact hfl.done i' t v' (by omega) (hed _ ((hrd i' (by omega) hd').1 hi'i)) hd' k3
          · rw [k2]
            refine hfl.rest t (fun j hj hlj hdj => ?_)
            rcases Nat.lt_trichotomy j i with h' | h' | h'
            · obtain ⟨oj, hoj, hod⟩ := Option.bind_eq_some_iff.1 hdj
              exact k1 j oj (by rw [List.getElem?_take_of_lt h']; exact hoj) hod
            · subst h'; exact hnl hlj
            · exact hnl (hdn j i hlj ((hrd j hj hdj).2 h'))
      have next : ∀ (r' : Rl) (w' : World) (v' : Value), VRel r' w' v' v → Inv cx r' (hpC σ σ' jc (listed.setIfInBounds i true)) w' → Ext r (hpC σ σ' jc listed) w r' (hpC σ σ' jc (listed.setIfInBounds i true)) w' → wpAny cx.P .any ops Q' f (listed.setIfInBounds i true) (a.put o.dst v') w' := by
        intro r' w' v' hv' hi' hx'
        have hun := unl_set (by omega) h0
        refine ih _ r' _ w' (by simpa using hs) (by omega) (fun j l hj he => ?_) (fun j hj hl => ?_) ⟨?_, fun j d u hj hl hdj hu => ?_, fun t ht => ?_, fun vs hm => by rw [Act.put_defers]; exact (hfl.defs vs hm).mono (hx'.grow hi)⟩ hi' (hd.put _ _) (hx.trans hx')
        · rw [listed_set (by omega)] at hj ⊢
          rcases hj with rfl | hj
          · exact .inr (hed l he)
          · exact .inr (hdn j l hj he)
        · rw [listed_set (by omega)] at hl
          rcases hl with rfl | hl
          · omega
          · exact hno j hj hl
        · cases hod : o.dst <;> simp [Act.put, hfl.size]
        · have hg := hx'.grow hi
          rw [listed_set (by omega)] at hl
          by_cases hji : j = i
          · subst hji
            rw [hv] at hu; cases hu
            have hod : o.dst = some d := by simpa [dstOf, hol] using hdj
            rw [hod]
            rw [hod] at hdst
            simp only [Act.put]
            rw [getD_setIfInBounds (by rw [hfl.size]; exact blt_lt hdst), if_pos rfl]
            exact hv'
          · have hl' := hl.resolve_left hji
            have hold := (hfl.done j d u hj hl' hdj hu).mono hg
            cases hod : o.dst with
            | none => exact hold
            | some d' =>
              have hne : d' ≠ d := fun e => hji (huniq j i d hj him hdj (by subst e; simp [dstOf, hol, hod]))
              rw [hod] at hdst
              simp only [Act.put]
              rw [getD_setIfInBounds (by rw [hfl.size]; exact blt_lt hdst), if_neg hne]
              exact hold
        · have hg := hx'.grow hi
          have hold := (hfl.rest t (fun j hj hl => ht j hj ((listed_set (by omega)).2 (.inr hl)))).mono hg
          have hti := ht i him ((listed_set (by omega)).2 (.inl rfl))
          cases hod : o.dst with
          | none => exact hold
          | some d' =>
            have hne : d' ≠ t := fun e => hti (by subst e; simp [dstOf, hol, hod])
            rw [hod] at hdst
            simp only [Act.put]
            rw [getD_setIfInBounds (by rw [hfl.size]; exact blt_lt hdst), if_neg hne]
            exact hold
      unfold wpOp
      simp only [ho]
      rcases hst with ⟨hg, rfl, hσ⟩ | ⟨hg, hgo⟩
      · rw [guardA_wanted (cx := cx) hfr hg]
        simp only [Bool.false_eq_true, if_false]
        exact next r w undef (.tup rfl (fun i h => absurd h (by simp))) (by rw [hσ]; exact hi) (by rw [hσ]; exact Ext.refl _ _ _)
      · rw [guardA_wanted (cx := cx) hfr hg]
        simp only [if_true]
        refine .inl (Oper.wp_mono (fun a' w' h => ?_) (hgo r a w hi hfr Q'))
        obtain ⟨r', v', rfl, h2, h3, h4⟩ := h
        exact next r' w' v' h2 h3 h4
def noA : List Nat → Bool
  | [] => false
  | n :: _ => Nat.beq n 1000001
def aOpK (cx : Cx) (K : List Nat) (dst : Option Nat) (o : Op) (fr : Fr) (σ : Heap) : Option (List Prop × AV × Heap) := match noA K with
  | true => none
  | false => aOp cx [] dst o fr σ
theorem aOpK_some {cx : Cx} {K : List Nat} {dst : Option Nat} {o : Op} {fr : Fr} {σ : Heap} {y : List Prop × AV × Heap} (h : aOpK cx K dst o fr σ = some y) : aOp cx [] dst o fr σ = some y := by
  unfold aOpK at h
  split at h
  · cases h
  · exact h
def runC (cx : Cx) (K : List Nat) (n : Nat) (all : Array Oper) (ops : List Oper) (σ σ' : Heap) (jc : Nat) : List Oper → Nat → Fr → List AV → Option (List Prop × List AV × Fr)
  | [], _, fr, rs => some ([], [], fr)
  | o :: r, i, fr, rs => match Nat.beq i jc with
    | true => match rs with
      | v :: rs => match dstOk n o.dst with
        | true => match guardA all o K (restr ops o fr) with
          | some true => match callA cx (restr ops o fr) o.op with
            | some (f, args) => match runC cx K n all ops σ σ' jc r (i + 1) (setA o.dst v fr) rs with
              | some (D, vs, fr') => some ((∃ args', CallOk cx f args' σ (fun out σ1 => out = .ret v ∧ σ1 = σ') ∧ args = args') :: D, v :: vs, fr')
              | none => none
            | none => match aOpK cx K o.dst o.op (restr ops o fr) σ with
              | some (C', v', σ1) => match runC cx K n all ops σ σ' jc r (i + 1) (setA o.dst v fr) rs with
                | some (D, vs, fr') => some (C' ++ ((v' = v) :: (σ1 = σ') :: D), v :: vs, fr')
                | none => none
              | none => match runC cx K n all ops σ σ' jc r (i + 1) (setA o.dst v fr) rs with
                | some (D, vs, fr') => some ((OpSpec cx n (restr ops o fr) σ o v σ') :: D, v :: vs, fr')
                | none => none
          | _ => none
        | false => none
      | [] => none
    | false => match oneD cx K n all σ o (restr ops o fr) rs with
      | some (C, v, rs') => match oneD cx K n all σ' o (restr ops o fr) rs with
        | some (C', v', _) => forceV v fun v => match runC cx K n all ops σ σ' jc r (i + 1) (setA o.dst v fr) rs' with
          | some (D, vs, fr') => some (C ++ (C' ++ ((v' = v) :: D)), v :: vs, fr')
          | none => none
        | none => none
      | none => none
theorem callC_step {σ' : Heap} {K : List Nat} {all : Array Oper} {o : Oper} {f : FuncId} {args : List AV} {v : AV} (hd : dstOk n o.dst = true) (hg : guardA all o K fr = some true) (hc : callA cx fr o.op = some (f, args))
    (h : CallOk cx f args σ (fun out σ1 => out = .ret v ∧ σ1 = σ')) : StepX cx n all σ σ' K fr o v := by
  refine ⟨hd, .inr ⟨hg, fun r a w hi hf Q => ?_⟩⟩
  obtain ⟨vs, h1, h2⟩ := callA_run hi hf hc h.1
  unfold Oper.wp
  rw [h1, Oper.upon_enter]
  refine (h.2 r w vs hi h2).mono fun e w' ⟨out, σ1, r', ⟨ho, hσ⟩, hor, hi', hx'⟩ => ?_
  subst ho; subst hσ
  cases e with
  | returned u => exact ⟨r', u, rfl, hor, hi', hx'⟩
  | panicked chain => exact hor.elim
  | outgrown => exact hor.elim
theorem opC_step {σ' : Heap} {K : List Nat} {all : Array Oper} {o : Oper} {C : List Prop} {v : AV} (hd : dstOk n o.dst = true) (hg : guardA all o K fr = some true) (ha : aOp cx [] o.dst o.op fr σ = some (C, v, σ')) (hC : AllP C) : StepX cx n all σ σ' K fr o v := by
  refine ⟨hd, .inr ⟨hg, fun r a w hi hf Q => ?_⟩⟩
  obtain ⟨r', w', v', hrun, hv, hi', hx'⟩ := aOp_run hi hf ha hC
  unfold Oper.wp
  rcases hrun with hrun | ⟨hrun, hu⟩
  · rw [hrun]; exact ⟨r', v', rfl, hv, hi', hx'⟩
  · rw [hrun]; subst hu; exact ⟨r', _, rfl, hv, hi', hx'⟩
theorem specC_step {σ' : Heap} {K : List Nat} {all : Array Oper} {o : Oper} {v : AV} (hd : dstOk n o.dst = true) (hg : guardA all o K fr = some true) (h : OpSpec cx n fr σ o v σ') : StepX cx n all σ σ' K fr o v := by
  refine ⟨hd, .inr ⟨hg, fun r a w hi hf Q => ?_⟩⟩
  obtain ⟨r', w', v', hrun, hv, hi', hx'⟩ := h r a w hi hf
  unfold Oper.wp
  rcases hrun with hrun | ⟨hrun, hu⟩
  · rw [hrun]; exact ⟨r', v', rfl, hv, hi', hx'⟩
  · rw [hrun]; subst hu; exact ⟨r', _, rfl, hv, hi', hx'⟩
theorem runC_spec {σ' : Heap} {jc : Nat} {K : List Nat} {all : Array Oper} {ops : List Oper} : ∀ {l : List Oper} {i : Nat} {fr fr' : Fr} {rs vals : List AV} {C : List Prop}, runC cx K n all ops σ σ' jc l i fr rs = some (C, vals, fr') → AllP C →
    vals.length = l.length ∧ fr' = ovl l vals fr ∧ ∀ (j : Nat) (o : Oper) (v : AV), l[j]? = some o → vals[j]? = some v →
      (i + j ≠ jc → ∀ b : Bool, StepX cx n all (bif b then σ' else σ) (bif b then σ' else σ) K (restr ops o (ovl (l.take j) (vals.take j) fr)) o v) ∧ (i + j = jc → StepX cx n all σ σ' K (restr ops o (ovl (l.take j) (vals.take j) fr)) o v)
  | [], i, fr, fr', rs, vals, C, h, hC => by
    simp only [runC, Option.some.injEq, Prod.mk.injEq] at h
    obtain ⟨rfl, rfl, rfl⟩ := h
    exact ⟨rfl, rfl, fun j o v h => by simp at h⟩
  | o :: l, i, fr, fr', rs, vals, C, h, hC => by
    simp only [runC] at h
    split at h
    · rename_i hb
      have hij : i = jc := Nat.eq_of_beq_eq_true hb
      split at h
      case h_2 => cases h
      rename_i v rs'
      split at h
      case h_2 => cases h
      rename_i hds
      split at h
      case h_2 => cases h
      rename_i hg
      split at h
      case h_2 =>
        split at h
        case h_2 =>
          split at h
          case h_2 => cases h
          rename_i D vs fr1 h2
          simp only [Option.some.injEq, Prod.mk.injEq] at h
          obtain ⟨rfl, rfl, rfl⟩ := h
          obtain ⟨hsp, hD⟩ := hC
          obtain ⟨k1, k2, k3⟩ := runC_spec h2 hD
          refine ⟨by simp [k1], by rw [k2]; rfl, fun j oj vj hj hvj => ?_⟩
          cases j with
          | zero =>
            simp only [List.getElem?_cons_zero, Option.some.injEq] at hj hvj
            subst hj; subst hvj
            exact ⟨fun h => absurd hij h, fun _ => specC_step hds hg hsp⟩
          | succ j =>
            simp only [List.getElem?_cons_succ] at hj hvj
            have := k3 j oj vj hj hvj
            rw [show i + 1 + j = i + (j + 1) by omega] at this
            exact this
        rename_i C' v' σ1 ha
        have ha := aOpK_some ha
        split at h
        case h_2 => cases h
        rename_i D vs fr1 h2
        simp only [Option.some.injEq, Prod.mk.injEq] at h
        obtain ⟨rfl, rfl, rfl⟩ := h
        obtain ⟨hC', hv, hσ, hD⟩ := AllP_append hC
        subst hv; subst hσ
        obtain ⟨k1, k2, k3⟩ := runC_spec h2 hD
        refine ⟨by simp [k1], by rw [k2]; rfl, fun j oj vj hj hvj => ?_⟩
        cases j with
        | zero =>
          simp only [List.getElem?_cons_zero, Option.some.injEq] at hj hvj
          subst hj; subst hvj
          exact ⟨fun h => absurd hij h, fun _ => opC_step hds hg ha hC'⟩
        | succ j =>
          simp only [List.getElem?_cons_succ] at hj hvj
          have := k3 j oj vj hj hvj
          rw [show i + 1 + j = i + (j + 1) by omega] at this
          exact this
      rename_i f args hc
      split at h
      case h_2 => cases h
      rename_i D vs fr1 h2
      simp only [Option.some.injEq, Prod.mk.injEq] at h
      obtain ⟨rfl, rfl, rfl⟩ := h
      obtain ⟨⟨args', hcall, rfl⟩, hD⟩ := hC
      obtain ⟨k1, k2, k3⟩ := runC_spec h2 hD
      refine ⟨by simp [k1], by rw [k2]; rfl, fun j oj vj hj hvj => ?_⟩
      cases j with
      | zero =>
        simp only [List.getElem?_cons_zero, Option.some.injEq] at hj hvj
        subst hj; subst hvj
        exact ⟨fun h => absurd hij h, fun _ => callC_step hds hg hc hcall⟩
      | succ j =>
        simp only [List.getElem?_cons_succ] at hj hvj
        have := k3 j oj vj hj hvj
        rw [show i + 1 + j = i + (j + 1) by omega] at this
        exact this
    · rename_i hb
      have hij : i ≠ jc := fun e => by rw [e, Nat.beq_refl] at hb; cases hb
      split at h
      case h_2 => cases h
      rename_i C1 v rs' h1
      split at h
      case h_2 => cases h
      rename_i C1' v' _ h1'
      rw [forceV_eq] at h
      split at h
      case h_2 => cases h
      rename_i D vs fr1 h2
      simp only [Option.some.injEq, Prod.mk.injEq] at h
      obtain ⟨rfl, rfl, rfl⟩ := h
      obtain ⟨hC1, hD1⟩ := AllP_append hC
      obtain ⟨hC1', hD2⟩ := AllP_append hD1
      obtain ⟨hv, hD⟩ := hD2
      subst hv
      obtain ⟨k1, k2, k3⟩ := runC_spec h2 hD
      refine ⟨by simp [k1], by rw [k2]; rfl, fun j oj vj hj hvj => ?_⟩
      cases j with
      | zero =>
        simp only [List.getElem?_cons_zero, Option.some.injEq] at hj hvj
        subst hj; subst hvj
        refine ⟨fun _ b => ?_, fun h => absurd h hij⟩
        cases b with
        | true => exact (oneD_spec h1' hC1').x
        | false => exact (oneD_spec h1 hC1).x
      | succ j =>
        simp only [List.getElem?_cons_succ] at hj hvj
        have := k3 j oj vj hj hvj
        rw [show i + 1 + j = i + (j + 1) by omega] at this
        exact this
theorem S_drawC {id : Nat} (σ' : Heap) (jc : Nat) {ops : Array Oper} {vals : List AV} {C : List Prop} {fr' : Fr} (m : Nat) (K : List Nat) (rs : List AV) (hP : cx.P.follows .mixedOrders = true) (hchk : drawOk ops.toList m = true) (hmN : Nat.ble m ops.size = true) (hjc : Nat.blt jc m = true)
    (hrun : runC cx K n ops ops.toList σ σ' jc (ops.toList.take m) 0 fr rs = some (C, vals, fr')) (hC : AllP C)
    (hk : S cx n B (.ops ops (ops.toList.drop m) [] :: k) Q fr' σ') : S cx n B (.code (.region id ops true) :: k) Q fr σ := by
  intro r a w hi hf hd hx
  obtain ⟨c1, c2, c3, c4, c5⟩ := drawOk_spec hchk
  obtain ⟨k1, k2, k3⟩ := runC_spec hrun hC
  have hmN' := Nat.le_of_ble_eq_true hmN
  have hlen : vals.length = m := by rw [k1]; simp; omega
  obtain ⟨hi1, hx1⟩ := hi.heap_eq (w' := { w with drawn := w.drawn + 1 }) rfl rfl rfl rfl
  have hf1 := hf.mono (hx1.grow hi)
  have nl : ∀ {j : Nat}, ¬ Listed (Array.replicate ops.size false) j := by
    intro j hj
    unfold Listed at hj
    rw [Array.getD_eq_getD_getElem?, Array.getElem?_replicate] at hj
    split at hj <;> simp at hj
  have h0 : hpC σ σ' jc (Array.replicate ops.size false) = σ := hpC_out (by
    cases hb : (Array.replicate ops.size false).getD jc false with
    | false => rfl
    | true => exact absurd hb nl)
  refine wp_region_any hP ?_
  refine wpAny_frontC (σ' := σ') (jc := jc) (cx := cx) (n := n) (B := B) (fr := fr) (σ := σ) (m := m) (vals := vals) (K := K) (blt_lt hjc) hmN' hlen c1 c2 c3 c4 c5 (fun j o v hj ho hv => ?_) (fun r a w hi hf hd hx => ?_) ops.size _ r a _ (by simp) ?_ (fun j i hj => ?_) (fun j _ => ?_) ⟨hf1.size, fun j d v _ hj => ?_, fun t _ => hf1.get t, hf1.defs⟩ (by rw [h0]; exact hi1) hd (by rw [h0]; exact hx.trans hx1)
  · have h := k3 j o v (by rw [List.getElem?_take_of_lt hj]; exact ho) hv
    rw [List.take_take, Nat.min_eq_left (by omega), Nat.zero_add] at h
    exact h
  · rw [k2] at hk
    exact hk r a w hi hf hd hx
  · unfold unl; simp [List.countP_replicate]
  · exact absurd hj nl
  · exact nl
  · exact absurd hj nl
def normC (x : Option (List Prop × List AV × Fr)) : Option (List Prop × List AV × Fr) := match x with
  | some (C, v, f) => forceL C fun C => some (C, v, f)
  | none => none
theorem normC_eq (x : Option (List Prop × List AV × Fr)) : normC x = x := by
  unfold normC
  split
  · rw [forceL_eq]
  · rfl
theorem S_drawCN {id : Nat} (σ' : Heap) (jc : Nat) {ops : Array Oper} {vals : List AV} {C : List Prop} {fr' : Fr} (m : Nat) (K : List Nat) (rs : List AV) (hP : cx.P.follows .mixedOrders = true) (hchk : drawOk ops.toList m = true) (hmN : Nat.ble m ops.size = true) (hjc : Nat.blt jc m = true)
    (hrun : normC (runC cx K n ops ops.toList σ σ' jc (ops.toList.take m) 0 fr rs) = some (C, vals, fr')) (hC : AllP C)
    (hk : S cx n B (.ops ops (ops.toList.drop m) [] :: k) Q fr' σ') : S cx n B (.code (.region id ops true) :: k) Q fr σ :=
  S_drawC σ' jc m K rs hP hchk hmN hjc (by rw [← normC_eq (runC cx K n ops ops.toList σ σ' jc (ops.toList.take m) 0 fr rs)]; exact hrun) hC hk
end
end Go.Ab
end
section
set_option linter.unusedVariables false
set_option linter.unusedSimpArgs false
namespace Go.Ab
open Go
theorem AllP_cons {p : Prop} {r : List Prop} (h : p) (hr : AllP r) : AllP (p :: r) := ⟨h, hr⟩
theorem aC {p : Prop} (h : p := by first | exact trivial | assumption | omega | rfl | exact decide_eq_true (by omega) | exact decide_eq_false (by omega) | (rw [IntWalk.i64_in _ ⟨by omega, by omega⟩]; omega) | exact allOne_mem rfl | exact Nat.le_of_ble_eq_true rfl | (simp only [List.length_cons, List.length_nil]; omega)) : p := h
theorem fl {p : Prop} (h : p := by (simp only [List.length_append, List.length_cons, List.length_nil, List.flatten_append, List.flatten_cons, List.flatten_nil, List.append_nil] at * <;> omega)) : p := h
inductive Ht where
  | k (x : AV)
  | v (x : AV)
  | c (x : AV) (σ : Heap)
  | b (t : Bool)
  | f (x : AV) (g : Heap → Heap)
  | d (jc m : Nat) (K : List Nat) (g : Heap → Heap) (rs : List AV)
  | o (x : AV) (g : Heap → Heap)
  | s
def stopH : List Ht → Bool
  | .s :: _ => true
  | _ => false
def chgOp : Op → Bool
  | .alloc _ => true
  | .box .. => true
  | .store .. => true
  | .makeSlice .. => true
  | .range .. => true
  | .makeMap .. => true
  | .mapUpdate .. => true
  | .mapEntry .. => true
  | .entryStore .. => true
  | .next .. => true
  | .call { callee := .builtin b, .. } => match b with
    | .append | .copy | .delete | .clear => true
    | _ => false
  | _ => false
def outH : List Ht → Option (AV × (Heap → Heap) × List Ht)
  | .o x g :: hs => some (x, g, hs)
  | _ => none
def isGuard (ops : List Oper) (i : Nat) : Bool := match ops with
  | [] => false
  | o :: r => match o.guard with
    | some (j, _) => Nat.beq i j || isGuard r i
    | none => isGuard r i
def guardKs (ops : List Oper) : List Oper → List Nat
  | [] => []
  | o :: r => match o.guard with
    | some (j, _) => match dstOf ops j with
      | some d => d :: guardKs ops r
      | none => guardKs ops r
    | none => guardKs ops r
def rsOf : List Ht → List AV
  | .v r :: _ => [r]
  | _ => []
def tailIf (hs : List Ht) (rs' : List AV) : List Ht := match rs' with
  | [] => match hs with
    | .v _ :: hs => hs
    | hs => hs
  | _ :: _ => hs
section
variable {cx : Cx} {n : Nat} {B : Bs} {k : List AI} {Q : Post} {fr : Fr} {σ : Heap}
def plainOp : Op → Bool
  | .call _ => false
  | .indexAddr .. => false
  | _ => true
def oneH (cx : Cx) (K : List Nat) (n : Nat) (all : Array Oper) (σ : Heap) (o : Oper) (fr : Fr) (hs : List Ht) : Option (List Prop × AV × List Ht) :=
  match chgOp o.op with
  | true => none
  | false => match plainOp o.op with
    | true => match dstOk n o.dst with
      | true => match guardA all o K fr with
        | some true => match aPure cx o.op fr σ with
          | some (C, v) => some (C, v, hs)
          | none => match oneD cx K n all σ o fr (rsOf hs) with
            | some (C, v, rs') => some (C, v, tailIf hs rs')
            | none => none
        | some false => some ([], .tup [], hs)
        | none => none
      | false => none
    | false => match hs with
      | .k x :: hs => match dstOk n o.dst with
        | true => match guardA all o K fr with
          | some true => match callA cx fr o.op with
            | some (f, args) => some ([CallOk cx f args σ (fun e s => e = .ret x ∧ s = σ)], x, hs)
            | none => none
          | some false => some ([], .tup [], .k x :: hs)
          | none => none
        | false => none
      | hs => match oneD cx K n all σ o fr (rsOf hs) with
        | some (C, v, rs') => some (C, v, tailIf hs rs')
        | none => none
theorem oneH_spec {K : List Nat} {all : Array Oper} {o : Oper} {fr : Fr} {hs hs' : List Ht} {C : List Prop} {v : AV} (h : oneH cx K n all σ o fr hs = some (C, v, hs')) (hC : AllP C) : StepD cx n all σ K fr o v := by
  unfold oneH at h
  have key : ∀ {x : Option (List Prop × AV × List Ht)}, (x = match oneD cx K n all σ o fr (rsOf hs) with | some (C, v, rs') => some (C, v, tailIf hs rs') | none => none) → x = some (C, v, hs') → StepD cx n all σ K fr o v := by
    intro x hx h1
    rw [h1] at hx
    split at hx
    · rename_i C' v' rs' hd
      simp only [Option.some.injEq, Prod.mk.injEq] at hx
      obtain ⟨rfl, rfl, rfl⟩ := hx
      exact oneD_spec hd hC
    · cases hx
  split at h
  · cases h
  split at h
  · split at h
    · rename_i hdst
      split at h
      · rename_i hg
        split at h
        · rename_i C' v' hp
          simp only [Option.some.injEq, Prod.mk.injEq] at h
          obtain ⟨rfl, rfl, rfl⟩ := h
          refine ⟨hdst, .inr ⟨hg, fun r a w hi hf Q => ?_⟩⟩
          obtain ⟨u, h1, h2⟩ := aPure_run hi hf hp hC
          unfold Oper.wp
          rw [h1]
          exact ⟨r, u, rfl, h2, hi, Ext.refl r σ w⟩
        · exact key rfl h
      · rename_i hg
        simp only [Option.some.injEq, Prod.mk.injEq] at h
        obtain ⟨rfl, rfl, rfl⟩ := h
        exact ⟨hdst, .inl ⟨hg, rfl⟩⟩
      · cases h
    · cases h
  · split at h
    · rename_i x hs1
      split at h
      · rename_i hdst
        split at h
        · rename_i hg
          split at h
          · rename_i f args hc
            simp only [Option.some.injEq, Prod.mk.injEq] at h
            obtain ⟨rfl, rfl, rfl⟩ := h
            refine ⟨hdst, .inr ⟨hg, fun r a w hi hf Q => ?_⟩⟩
            obtain ⟨vs, h1, h2⟩ := callA_run hi hf hc hC.1.1
            unfold Oper.wp
            rw [h1, Oper.upon_enter]
            refine (hC.1.2 r w vs hi h2).mono fun e w' ⟨out, σ', r1, ⟨ho, hσ'⟩, hor, hi1, hx1⟩ => ?_
            subst ho; subst hσ'
            cases e with
            | returned u => exact ⟨r1, u, rfl, hor, hi1, hx1⟩
            | panicked chain => exact hor.elim
            | outgrown => exact hor.elim
          · cases h
        · rename_i hg
          simp only [Option.some.injEq, Prod.mk.injEq] at h
          obtain ⟨rfl, rfl, rfl⟩ := h
          exact ⟨hdst, .inl ⟨hg, rfl⟩⟩
        · cases h
      · cases h
    · exact key rfl h
structure Hd where
  C : List Prop
  vals : List AV
  fr : Fr
  m : Nat
  hs : List Ht
def runH (cx : Cx) (K : List Nat) (n : Nat) (all : Array Oper) (ops : List Oper) (σ : Heap) : List Oper → Nat → Fr → List Ht → Hd
  | [], i, fr, hs => ⟨[], [], fr, i, hs⟩
  | o :: r, i, fr, hs => match oneH cx K n all σ o (restr ops o fr) hs with
    | none => ⟨[], [], fr, i, hs⟩
    | some (C, v, hs') => match isGuard ops i with
      | false => forceV v fun v => match runH cx K n all ops σ r (i + 1) (setA o.dst v fr) hs' with
        | ⟨D, vs, fr', m, hs''⟩ => ⟨C ++ D, v :: vs, fr', m, hs''⟩
      | true => match v with
        | .bool b => match hs' with
          | .b t :: hs' => match runH cx K n all ops σ r (i + 1) (setA o.dst (.bool t) fr) hs' with
            | ⟨D, vs, fr', m, hs''⟩ => ⟨C ++ ((b = t) :: D), .bool t :: vs, fr', m, hs''⟩
          | _ => ⟨[], [], fr, i, hs⟩
        | .tup us => match runH cx K n all ops σ r (i + 1) (setA o.dst (.tup us) fr) hs' with
          | ⟨D, vs, fr', m, hs''⟩ => ⟨C ++ D, .tup us :: vs, fr', m, hs''⟩
        | _ => ⟨[], [], fr, i, hs⟩
def runHK {α : Type} (cx : Cx) (K : List Nat) (n : Nat) (all : Array Oper) (ops : List Oper) (σ : Heap) : List Oper → Nat → Fr → List Ht → (List Prop → List AV → Fr → Nat → List Ht → α) → α
  | [], i, fr, hs, c => c [] [] fr i hs
  | o :: r, i, fr, hs, c => match oneH cx K n all σ o (restr ops o fr) hs with
    | none => c [] [] fr i hs
    | some (C, v, hs') => match isGuard ops i with
      | false => forceV v fun v => runHK cx K n all ops σ r (i + 1) (setA o.dst v fr) hs' fun D vs fr' m hs'' => c (C ++ D) (v :: vs) fr' m hs''
      | true => match v with
        | .bool b => match hs' with
          | .b t :: hs' => runHK cx K n all ops σ r (i + 1) (setA o.dst (.bool t) fr) hs' fun D vs fr' m hs'' => c (C ++ ((b = t) :: D)) (.bool t :: vs) fr' m hs''
          | _ => c [] [] fr i hs
        | .tup us => runHK cx K n all ops σ r (i + 1) (setA o.dst (.tup us) fr) hs' fun D vs fr' m hs'' => c (C ++ D) (.tup us :: vs) fr' m hs''
        | _ => c [] [] fr i hs
theorem runHK_eq {α : Type} {K : List Nat} {all : Array Oper} {ops : List Oper} : ∀ (l : List Oper) (i : Nat) (fr : Fr) (hs : List Ht) (c : List Prop → List AV → Fr → Nat → List Ht → α),
    runHK cx K n all ops σ l i fr hs c = c (runH cx K n all ops σ l i fr hs).C (runH cx K n all ops σ l i fr hs).vals (runH cx K n all ops σ l i fr hs).fr (runH cx K n all ops σ l i fr hs).m (runH cx K n all ops σ l i fr hs).hs
  | [], i, fr, hs, c => rfl
  | o :: l, i, fr, hs, c => by
    unfold runHK runH
    split
    · rfl
    · split
      · simp only [forceV_eq]
        rw [runHK_eq l]
      · split
        · split
          · rw [runHK_eq l]
          · rfl
        · rw [runHK_eq l]
        · rfl
def HdOk (cx : Cx) (K : List Nat) (n : Nat) (all : Array Oper) (ops : List Oper) (σ : Heap) (l : List Oper) (i : Nat) (fr : Fr) (H : Hd) : Prop :=
  i ≤ H.m ∧ H.m - i ≤ l.length ∧ H.vals.length = H.m - i ∧ H.fr = ovl (l.take (H.m - i)) H.vals fr ∧
    ∀ (j : Nat) (o : Oper) (v : AV), j < H.m - i → l[j]? = some o → H.vals[j]? = some v → StepD cx n all σ K (restr ops o (ovl (l.take j) (H.vals.take j) fr)) o v
theorem HdOk.stop {K : List Nat} {all : Array Oper} {ops l : List Oper} {i : Nat} {fr : Fr} {hs : List Ht} : HdOk cx K n all ops σ l i fr ⟨[], [], fr, i, hs⟩ := by
  refine ⟨Nat.le_refl _, ?_, ?_, ?_, fun j o v h => ?_⟩
  · show i - i ≤ _; omega
  · show 0 = i - i; omega
  · show fr = ovl (l.take (i - i)) [] fr
    rw [Nat.sub_self]; rfl
  · exfalso; have h : j < i - i := h; omega
theorem HdOk.cons {K : List Nat} {all : Array Oper} {ops l : List Oper} {o : Oper} {i : Nat} {fr fr1 : Fr} {v : AV} {D E : List Prop} {vs : List AV} {m : Nat} {hs : List Ht}
    (h1 : StepD cx n all σ K (restr ops o fr) o v) (h : HdOk cx K n all ops σ l (i + 1) (setA o.dst v fr) ⟨D, vs, fr1, m, hs⟩) : HdOk cx K n all ops σ (o :: l) i fr ⟨E, v :: vs, fr1, m, hs⟩ := by
  obtain ⟨k1, k2, k3, k4, k5⟩ := h
  have k1 : i + 1 ≤ m := k1
  have k2 : m - (i + 1) ≤ l.length := k2
  have k3 : vs.length = m - (i + 1) := k3
  have k4 : fr1 = ovl (l.take (m - (i + 1))) vs (setA o.dst v fr) := k4
  have e : m - i = (m - (i + 1)) + 1 := by omega
  refine ⟨?_, ?_, ?_, ?_, fun j oj vj hj ho hv => ?_⟩
  · show i ≤ m; omega
  · show m - i ≤ l.length + 1; omega
  · show vs.length + 1 = m - i; omega
  · show fr1 = ovl ((o :: l).take (m - i)) (v :: vs) fr
    rw [e, List.take_succ_cons, k4]; rfl
  · have hj : j < m - i := hj
    cases j with
    | zero =>
      have ho : some o = some oj := ho
      have hv : some v = some vj := hv
      cases ho; cases hv
      exact h1
    | succ j => exact k5 j oj vj (by show j < m - (i + 1); omega) ho hv
theorem runH_spec {K : List Nat} {all : Array Oper} {ops : List Oper} : ∀ (l : List Oper) (i : Nat) (fr : Fr) (hs : List Ht), AllP (runH cx K n all ops σ l i fr hs).C → HdOk cx K n all ops σ l i fr (runH cx K n all ops σ l i fr hs)
  | [], i, fr, hs, _ => HdOk.stop
  | o :: l, i, fr, hs, hC => by
    unfold runH at hC ⊢
    split at hC
    · exact HdOk.stop
    · rename_i C v hs' h1
      split at hC
      · simp only [forceV_eq] at hC ⊢
        have ih := runH_spec (K := K) (all := all) (ops := ops) l (i + 1) (setA o.dst v fr) hs'
        generalize runH cx K n all ops σ l (i + 1) (setA o.dst v fr) hs' = H at hC ih ⊢
        obtain ⟨D, vs, fr', m, hs''⟩ := H
        obtain ⟨hC1, hC2⟩ := AllP_append hC
        exact HdOk.cons (oneH_spec h1 hC1) (ih hC2)
      · split at hC
        · rename_i b
          split at hC
          · rename_i t hs1
            have ih := runH_spec (K := K) (all := all) (ops := ops) l (i + 1) (setA o.dst (.bool t) fr) hs1
            generalize runH cx K n all ops σ l (i + 1) (setA o.dst (.bool t) fr) hs1 = H at hC ih ⊢
            obtain ⟨D, vs, fr', m, hs''⟩ := H
            obtain ⟨hC1, hb, hC2⟩ := AllP_append hC
            subst hb
            exact HdOk.cons (oneH_spec h1 hC1) (ih hC2)
          · exact HdOk.stop
        · rename_i us
          have ih := runH_spec (K := K) (all := all) (ops := ops) l (i + 1) (setA o.dst (.tup us) fr) hs'
          generalize runH cx K n all ops σ l (i + 1) (setA o.dst (.tup us) fr) hs' = H at hC ih ⊢
          obtain ⟨D, vs, fr', m, hs''⟩ := H
          obtain ⟨hC1, hC2⟩ := AllP_append hC
          exact HdOk.cons (oneH_spec h1 hC1) (ih hC2)
        · exact HdOk.stop
theorem S_drawH {id : Nat} {ops : Array Oper} (K : List Nat) (H : Hd) (hs : List Ht) (hP : cx.P.follows .mixedOrders = true) (hrun : runH cx K n ops ops.toList σ ops.toList 0 fr hs = H) (hchk : drawOk ops.toList H.m = true) (hC : AllP H.C)
    (hk : S cx n B (.ops ops (ops.toList.drop H.m) [] :: k) Q H.fr σ) : S cx n B (.code (.region id ops true) :: k) Q fr σ := by
  intro r a w hi hf hd hx
  subst hrun
  have hspec := runH_spec (K := K) (all := ops) (ops := ops.toList) (n := n) (cx := cx) (σ := σ) ops.toList 0 fr hs hC
  generalize runH cx K n ops ops.toList σ ops.toList 0 fr hs = H at hspec hchk hC hk
  obtain ⟨C, vals, fr', m, hs'⟩ := H
  obtain ⟨_, k2, k3, k4, k5⟩ := hspec
  simp only [Nat.sub_zero] at k2 k3 k4 k5 hchk hk
  obtain ⟨c1, c2, c3, c4, c5⟩ := drawOk_spec hchk
  obtain ⟨hi1, hx1⟩ := hi.heap_eq (w' := { w with drawn := w.drawn + 1 }) rfl rfl rfl rfl
  have hf1 := hf.mono (hx1.grow hi)
  have nl : ∀ {j : Nat}, ¬ Listed (Array.replicate ops.size false) j := by
    intro j hj
    unfold Listed at hj
    rw [Array.getD_eq_getD_getElem?, Array.getElem?_replicate] at hj
    split at hj <;> simp at hj
  refine wp_region_any hP ?_
  refine wpAny_front (cx := cx) (n := n) (B := B) (fr := fr) (σ := σ) (m := m) (vals := vals) (K := K) (by simpa using k2) k3 c1 c2 c3 c4 c5 (fun j o v hj ho hv => ?_) (fun r a w hi hf hd hx => ?_) ops.size _ r a _ (by simp) ?_ (fun j i hj => ?_) (fun j _ => ?_) ⟨hf1.size, fun j d v _ hj => ?_, fun t _ => hf1.get t, hf1.defs⟩ hi1 hd (hx.trans hx1)
  · exact k5 j o v hj ho hv
  · rw [k4] at hk
    exact hk r a w hi hf hd hx
  · unfold unl; simp [List.countP_replicate]
  · exact absurd hj nl
  · exact nl
  · exact absurd hj nl
def newOp (o : Op) : Bool := match o with
  | .buildSlice .. => true
  | .convert .. => true
  | o => chgOp o
def noF : List Nat → Bool
  | [] => false
  | n :: _ => Nat.beq n 1000000
def opqM : List Nat → Bool
  | _ :: n :: _ => Nat.beq n 1000000
  | _ => false
def heapOp : Op → Bool
  | .load .. => true
  | .store .. => true
  | .alloc .. => true
  | .box .. => true
  | .makeSlice .. => true
  | .call { callee := .builtin b, .. } => match b with
    | .append | .copy => true
    | _ => false
  | _ => false
def stopM (M : List Nat) (o : Op) : Bool := match opqM M with
  | true => heapOp o || stopOp o
  | false => stopOp o
def forceM {α : Type} (M : List Nat) (σ : Heap) (c : Heap → α) : α := match noF M with
  | true => c σ
  | false => forceL σ c
theorem forceM_eq {α : Type} (M : List Nat) (σ : Heap) (c : Heap → α) : forceM M σ c = c σ := by unfold forceM; split <;> simp [forceL_eq]
def forceIfM {α : Type} (M : List Nat) (b : Bool) (σ : Heap) (c : Heap → α) : α := match b with
  | true => forceM M σ c
  | false => c σ
theorem forceIfM_eq {α : Type} (M : List Nat) (b : Bool) (σ : Heap) (c : Heap → α) : forceIfM M b σ c = c σ := by cases b <;> simp [forceIfM, forceM_eq]
structure Rp where
  C : List Prop
  todo : List AI
  fr : Fr
  σ : Heap
  hs : List Ht
def revL {α β : Type} : List α → List α → (List α → β) → β
  | [], a, c => c a
  | x :: r, a, c => revL r (x :: a) c
theorem revL_eq {α β : Type} : ∀ (l a : List α) (c : List α → β), revL l a c = c (l.reverse ++ a)
  | [], a, c => rfl
  | x :: r, a, c => by rw [revL, revL_eq r]; simp
def halt (C : List Prop) (k : List AI) (fr : Fr) (σ : Heap) (hs : List Ht) : Rp := revL C [] fun C => ⟨C, k, fr, σ, hs⟩
theorem halt_eq (C : List Prop) (k : List AI) (fr : Fr) (σ : Heap) (hs : List Ht) : halt C k fr σ hs = ⟨C.reverse, k, fr, σ, hs⟩ := by rw [halt, revL_eq, List.append_nil]
def gdSlot (all : Array Oper) (o : Oper) (fr : Fr) : Option (Nat × Bool) :=
  match o.guard with
  | some (j, _) => match all[j]? with
    | some oj => match oj.dst with
      | some d => match fr.get d with
        | .bool b => some (d, b)
        | _ => none
      | none => none
    | none => none
  | none => none
def runP (cx : Cx) (M : List Nat) (n : Nat) : Nat → List Prop → List Ht → List AI → Fr → Heap → Rp
  | 0, C, hs, k, fr, σ => halt C k fr σ hs
  | f + 1, C, hs, k, fr, σ =>
    match k with
    | [] => halt C [] fr σ hs
    | .code c :: k => match c with
      | .skip => runP cx M n f C hs k fr σ
      | .label _ => runP cx M n f C hs k fr σ
      | .seq a b => runP cx M n f C hs (.code a :: .code b :: k) fr σ
      | .block id c => runP cx M n f C hs (.code c :: .blk id :: k) fr σ
      | .region id ops draw => match draw with
        | false => runP cx M n f C hs (.ops ops ops.toList [] :: k) fr σ
        | true => match hs with
          | .d jc m K g rs :: hs' => match Nat.ble m ops.size with
            | true => match Nat.blt jc m with
              | true => match drawOk ops.toList m with
                | true => forceM M (g σ) fun σ1 => match normC (runC cx K n ops ops.toList σ σ1 jc (ops.toList.take m) 0 fr rs) with
                  | some (D, vals, fr') => forceL fr' fun fr' => pushAll D ((cx.P.follows .mixedOrders = true) :: C) fun C => runP cx M n f C hs' (.ops ops (ops.toList.drop m) [] :: k) fr' σ1
                  | none => halt C (.code (.region id ops true) :: k) fr σ hs
                | false => halt C (.code (.region id ops true) :: k) fr σ hs
              | false => halt C (.code (.region id ops true) :: k) fr σ hs
            | false => halt C (.code (.region id ops true) :: k) fr σ hs
          | hs => match opqM M with
           | true => halt C (.code (.region id ops true) :: k) fr σ hs
           | false => runHK cx (guardKs ops.toList ops.toList) n ops ops.toList σ ops.toList 0 fr hs fun D vals fr' m hs' => match drawOk ops.toList m with
            | true => pushAll D ((cx.P.follows .mixedOrders = true) :: C) fun C => runP cx M n f C hs' (.ops ops (ops.toList.drop m) [] :: k) fr' σ
            | false => halt C (.code (.region id ops true) :: k) fr σ hs
      | .exit id => match popTo id k with
        | some k' => runP cx M n f C hs k' fr σ
        | none => halt C (.code (.exit id) :: k) fr σ hs
      | .cond c x y => match hs with
        | .b t :: hs' => match ev cx fr c with
          | .bool b => match t with
            | true => runP cx M n f ((b = true) :: C) hs' (.code x :: k) fr σ
            | false => runP cx M n f ((b = false) :: C) hs' (.code y :: k) fr σ
          | _ => halt C (.code (.cond c x y) :: k) fr σ hs
        | _ => halt C (.code (.cond c x y) :: k) fr σ hs
      | c => halt C (.code c :: k) fr σ hs
    | .blk _ :: k => runP cx M n f C hs k fr σ
    | .inv I :: k => halt C (.inv I :: k) fr σ hs
    | .ops all l K :: k => match l with
      | [] => runP cx M n f C hs k fr σ
      | o :: r => match stopH hs with
       | true => halt C (.ops all (o :: r) K :: k) fr σ hs
       | false => match dstOk n o.dst with
        | false => halt C (.ops all (o :: r) K :: k) fr σ hs
        | true => match guardA all o K fr with
          | none => match hs with
            | .b t :: hs' => match gdSlot all o fr with
              | some (d, b) => runP cx M n f ((b = t) :: C) hs' (.ops all (o :: r) (d :: K) :: k) ((d, .bool t) :: fr) σ
              | none => halt C (.ops all (o :: r) K :: k) fr σ hs
            | _ => halt C (.ops all (o :: r) K :: k) fr σ hs
          | some false => setC o.dst (.tup []) fr fun fr => runP cx M n f C hs (.ops all r K :: k) fr σ
          | some true => match outH hs with
           | some (x, g, hs') => forceM M (g σ) fun σ' => runP cx M n f ((OpSpec cx n fr σ o x (g σ)) :: C) hs' (.ops all r K :: k) (setA o.dst x fr) σ'
           | none => match callA cx fr o.op with
            | some (g, args) => match hs with
              | .v x :: hs' => setC o.dst x fr fun fr => runP cx M n f ((∃ args', Calc cx g args' x ∧ Frzs σ args args') :: C) hs' (.ops all r K :: k) fr σ
              | .k x :: hs' => setC o.dst x fr fun fr => runP cx M n f (CallOk cx g args σ (fun e s => e = .ret x ∧ s = σ) :: C) hs' (.ops all r K :: k) fr σ
              | .f x g' :: hs' => setC o.dst x fr fun fr => forceM M (g' σ) fun σ' => runP cx M n f (CallOk cx g args σ (fun e s => e = .ret x ∧ s = g' σ) :: C) hs' (.ops all r K :: k) fr σ'
              | .c x σ' :: hs' => setC o.dst x fr fun fr => runP cx M n f (CallOk cx g args σ (fun e s => e = .ret x ∧ s = σ') :: C) hs' (.ops all r K :: k) fr σ'
              | _ => halt C (.ops all (o :: r) K :: k) fr σ hs
            | none => match stopM M o.op with
              | false => match aOp cx M o.dst o.op fr σ with
                | some (D, v, σ') => pushAll D C fun C => forceV v fun v => forceIfM M (newOp o.op) σ' fun σ' => setC o.dst v fr fun fr => runP cx M n f C hs (.ops all r K :: k) fr σ'
                | none => match storeA cx fr σ o.op with
                  | some (D, σ') => pushAll D C fun C => forceM M σ' fun σ' => setC o.dst (.tup []) fr fun fr => runP cx M n f C hs (.ops all r K :: k) fr σ'
                  | none => match hs with
                    | .v x :: hs' => match loadA cx fr σ o.op x with
                      | some D => pushAll D C fun C => setC o.dst x fr fun fr => runP cx M n f C hs' (.ops all r K :: k) fr σ
                      | none => runP cx M n f ((OpSpec cx n fr σ o x σ) :: C) hs' (.ops all r K :: k) (setA o.dst x fr) σ
                    | .f x g :: hs' => forceM M (g σ) fun σ' => runP cx M n f ((OpSpec cx n fr σ o x (g σ)) :: C) hs' (.ops all r K :: k) (setA o.dst x fr) σ'
                    | _ => halt C (.ops all (o :: r) K :: k) fr σ hs
              | true => match hs with
                | .v x :: hs' => match idxA cx fr σ o.op x with
                  | some (D, v) => pushAll D C fun C => forceV v fun v => setC o.dst v fr fun fr => runP cx M n f C hs' (.ops all r K :: k) fr σ
                  | none => runP cx M n f ((OpSpec cx n fr σ o x σ) :: C) hs' (.ops all r K :: k) (setA o.dst x fr) σ
                | .f x g :: hs' => forceM M (g σ) fun σ' => runP cx M n f ((OpSpec cx n fr σ o x (g σ)) :: C) hs' (.ops all r K :: k) (setA o.dst x fr) σ'
                | _ => halt C (.ops all (o :: r) K :: k) fr σ hs
theorem gdSlot_some {all : Array Oper} {o : Oper} {fr : Fr} {d : Nat} {b : Bool} (h : gdSlot all o fr = some (d, b)) : ∃ j want oj, o.guard = some (j, want) ∧ all[j]? = some oj ∧ oj.dst = some d ∧ fr.get d = .bool b := by
  unfold gdSlot at h
  split at h
  · rename_i j want hg
    split at h
    · rename_i oj hj
      split at h
      · rename_i d' hd
        split at h
        · rename_i b' hb
          simp only [Option.some.injEq, Prod.mk.injEq] at h
          obtain ⟨rfl, rfl⟩ := h
          exact ⟨j, want, oj, hg, hj, hd, hb⟩
        · cases h
      · cases h
    · cases h
  · cases h
def Goes (cx : Cx) (n : Nat) (B : Bs) (Q : Post) (C : List Prop) (k : List AI) (fr : Fr) (σ : Heap) (R : Rp) : Prop := AllP R.C → AllP C ∧ (S cx n B R.todo Q R.fr R.σ → S cx n B k Q fr σ)
theorem AllP_of_rev {C : List Prop} (h : AllP C.reverse) : AllP C := (AllP_rev (C := []) (by simpa using h)).1
theorem Goes.here {C : List Prop} {hs : List Ht} : Goes cx n B Q C k fr σ (halt C k fr σ hs) := by
  rw [halt_eq]
  exact fun h => ⟨AllP_of_rev h, id⟩
theorem Goes.one {C : List Prop} {D : List Prop} {k k' : List AI} {fr fr' : Fr} {σ σ' : Heap} {R : Rp} (h : Goes cx n B Q (D.reverse ++ C) k' fr' σ' R) (hs : AllP D → S cx n B k' Q fr' σ' → S cx n B k Q fr σ) : Goes cx n B Q C k fr σ R := fun hC => by
  obtain ⟨h1, h2⟩ := h hC
  obtain ⟨h3, h4⟩ := AllP_rev h1
  exact ⟨h4, fun q => hs h3 (h2 q)⟩
theorem runP_sound {M : List Nat} : ∀ (f : Nat) (C : List Prop) (hs : List Ht) (k : List AI) (fr : Fr) (σ : Heap), Goes cx n B Q C k fr σ (runP cx M n f C hs k fr σ) := by
  intro f
  induction f with
  | zero => intro C hs k fr σ; exact .here
  | succ f ih =>
    intro C hs k fr σ
    unfold runP
    split
    · exact .here
    · rename_i c k'
      split
      · exact (ih _ _ _ _ _).one (D := []) fun _ => S_skip
      · exact (ih _ _ _ _ _).one (D := []) fun _ => S_label
      · exact (ih _ _ _ _ _).one (D := []) fun _ => S_seq
      · exact (ih _ _ _ _ _).one (D := []) fun _ => S_block
      · rename_i id ops draw
        split
        · exact (ih _ _ _ _ _).one (D := []) fun _ => S_region
        split
        · rename_i jc m K g rs hs'
          split
          case h_2 => exact .here
          rename_i hmN
          split
          case h_2 => exact .here
          rename_i hjc
          split
          case h_2 => exact .here
          rename_i hchk
          rw [forceM_eq]
          split
          case h_2 => exact .here
          rename_i D vals fr' hrun
          rw [forceL_eq, pushAll_eq]
          refine Goes.one (D := (cx.P.follows .mixedOrders = true) :: D) (fr' := fr') (σ' := g σ) (k' := .ops ops (ops.toList.drop m) [] :: k') (by rw [List.reverse_cons, List.append_assoc]; exact ih _ _ _ _ _) fun hD hk => ?_
          exact S_drawCN (g σ) jc m K rs hD.1 hchk hmN hjc hrun hD.2 hk
        · split
          case h_1 => exact .here
          rw [runHK_eq]
          generalize hrun : runH cx (guardKs ops.toList ops.toList) n ops ops.toList σ ops.toList 0 fr hs = H
          obtain ⟨D, vals, fr', m, hs'⟩ := H
          simp only
          split
          · rename_i hchk
            rw [pushAll_eq]
            refine Goes.one (D := (cx.P.follows .mixedOrders = true) :: D) (fr' := fr') (σ' := σ) (k' := .ops ops (ops.toList.drop m) [] :: k') (by rw [List.reverse_cons, List.append_assoc]; exact ih _ _ _ _ _) fun hD hk => ?_
            exact S_drawH (guardKs ops.toList ops.toList) _ hs hD.1 hrun hchk hD.2 hk
          · exact .here
      · split
        · rename_i id k'' hp
          exact (ih _ _ _ _ _).one (D := []) fun _ => S_exit hp
        · exact .here
      · rename_i c x y
        split
        · rename_i t hs'
          split
          · rename_i b hb
            split
            · exact (ih _ _ _ _ _).one (D := [b = true]) fun hD hk => S_cond hb (fun _ => hk) (fun h => by rw [hD.1] at h; cases h)
            · exact (ih _ _ _ _ _).one (D := [b = false]) fun hD hk => S_cond hb (fun h => by rw [hD.1] at h; cases h) (fun _ => hk)
          · exact .here
        · exact .here
      · exact .here
    · exact (ih _ _ _ _ _).one (D := []) fun _ => S_blk
    · exact .here
    · rename_i all l K k'
      split
      · exact (ih _ _ _ _ _).one (D := []) fun _ => S_ops_nil
      · rename_i o r
        split
        · exact .here
        rename_i hst
        clear hst
        split
        · exact .here
        · rename_i hd
          split
          · rename_i hg
            split
            · rename_i t hs'
              split
              · rename_i d b hgd
                obtain ⟨j, want, oj, e1, e2, e3, e4⟩ := gdSlot_some hgd
                refine (ih _ _ _ _ _).one (D := [b = t]) fun hD hk => ?_
                obtain rfl : b = t := hD.1
                exact S_guard e1 e2 e3 e4 (fun h => by subst h; exact hk) (fun h => by subst h; exact hk)
              · exact .here
            · exact .here
          · rename_i hg
            rw [setC_eq]
            exact (ih _ _ _ _ _).one (D := []) fun _ => S_op_skip hg hd
          · rename_i hg
            split
            · rename_i x g hs' _
              rw [forceM_eq]
              exact (ih _ _ _ _ _).one (D := [OpSpec cx n fr σ o x (g σ)]) fun hD hk => S_do hg hd hD.1 hk
            rename_i hout
            clear hout
            split
            · rename_i g args hc
              split
              · rename_i x hs'
                rw [setC_eq]
                refine (ih _ _ _ _ _).one (D := [∃ args', Calc cx g args' x ∧ Frzs σ args args']) fun hD hk => ?_
                obtain ⟨⟨args', h1, h2⟩, _⟩ := hD
                exact S_pure hc hg hd h1 h2 hk
              · rename_i x hs'
                rw [setC_eq]
                refine (ih _ _ _ _ _).one (D := [CallOk cx g args σ (fun e s => e = .ret x ∧ s = σ)]) fun hD hk => ?_
                exact S_call hg hc hd hD.1 (fun v s h => by obtain ⟨h1, rfl⟩ := h; obtain rfl := Out.ret.inj h1; exact hk) (fun v s h => by cases h.1)
              · rename_i x g' hs'
                rw [setC_eq, forceM_eq]
                refine (ih _ _ _ _ _).one (D := [CallOk cx g args σ (fun e s => e = .ret x ∧ s = g' σ)]) fun hD hk => ?_
                exact S_call hg hc hd hD.1 (fun v s h => by obtain ⟨h1, rfl⟩ := h; obtain rfl := Out.ret.inj h1; exact hk) (fun v s h => by cases h.1)
              · rename_i x σ' hs'
                rw [setC_eq]
                refine (ih _ _ _ _ _).one (D := [CallOk cx g args σ (fun e s => e = .ret x ∧ s = σ')]) fun hD hk => ?_
                exact S_call hg hc hd hD.1 (fun v s h => by obtain ⟨h1, rfl⟩ := h; obtain rfl := Out.ret.inj h1; exact hk) (fun v s h => by cases h.1)
              · exact .here
            · split
              · split
                · rename_i D v σ' ha
                  rw [pushAll_eq]
                  simp only [forceV_eq, forceIfM_eq, setC_eq]
                  exact (ih _ _ _ _ _).one (D := D) fun hD hk => S_op hg ha hD hd hk
                · split
                  · rename_i D σ' ha
                    rw [pushAll_eq]
                    simp only [forceM_eq, setC_eq]
                    exact (ih _ _ _ _ _).one (D := D) fun hD hk => S_store ha hg hd hD hk
                  · split
                    · rename_i x hs'
                      split
                      · rename_i D ha
                        rw [pushAll_eq]
                        simp only [setC_eq]
                        exact (ih _ _ _ _ _).one (D := D) fun hD hk => S_load x ha hg hd hD hk
                      · exact (ih _ _ _ _ _).one (D := [OpSpec cx n fr σ o x σ]) fun hD hk => S_do hg hd hD.1 hk
                    · rename_i x g hs'
                      rw [forceM_eq]
                      exact (ih _ _ _ _ _).one (D := [OpSpec cx n fr σ o x (g σ)]) fun hD hk => S_do hg hd hD.1 hk
                    · exact .here
              · split
                · rename_i x hs'
                  split
                  · rename_i D v ha
                    rw [pushAll_eq]
                    simp only [forceV_eq, setC_eq]
                    exact (ih _ _ _ _ _).one (D := D) fun hD hk => S_index x ha hg hd hD hk
                  · exact (ih _ _ _ _ _).one (D := [OpSpec cx n fr σ o x σ]) fun hD hk => S_do hg hd hD.1 hk
                · rename_i x g hs'
                  rw [forceM_eq]
                  exact (ih _ _ _ _ _).one (D := [OpSpec cx n fr σ o x (g σ)]) fun hD hk => S_do hg hd hD.1 hk
                · exact .here
theorem pago (M : List Nat) {k k' : List AI} {fr fr' : Fr} {σ σ' : Heap} {C : List Prop} (hs : List Ht) {hs' : List Ht} (h : runP cx M n 2000 [] hs k fr σ = ⟨C, k', fr', σ', hs'⟩) (hC : AllP C)
    (hk : S cx n B k' Q fr' σ') : S cx n B k Q fr σ := by
  have hg := runP_sound (M := M) (cx := cx) (n := n) (B := B) (Q := Q) 2000 [] hs k fr σ
  rw [h] at hg
  exact (hg hC).2 hk
theorem pa {k k' : List AI} {fr fr' : Fr} {σ σ' : Heap} {C : List Prop} (hs : List Ht) {hs' : List Ht} (h : runP cx [] n 2000 [] hs k fr σ = ⟨C, k', fr', σ', hs'⟩) (hC : AllP C)
    (hk : S cx n B k' Q fr' σ') : S cx n B k Q fr σ := pago [] hs h hC hk
theorem pao {k k' : List AI} {fr fr' : Fr} {σ σ' : Heap} {C : List Prop} (hs : List Ht) {hs' : List Ht} (h : runP cx [1000000, 1000000] n 2000 [] hs k fr σ = ⟨C, k', fr', σ', hs'⟩) (hC : AllP C)
    (hk : S cx n B k' Q fr' σ') : S cx n B k Q fr σ := pago [1000000, 1000000] hs h hC hk
theorem S_cut {todo : List AI} {id cur : Nat} {cs : List AV} {ty : Option TypeId} (m : Nat) (h : σ[id]? = some (cur, some (.cells cs ⟨false, ty⟩))) (hT : ∃ c k, todo = .code c :: k ∨ ∃ all l K, todo = .ops all l K :: k)
    (hk : S cx n B todo Q fr (σ.set id (cur, some (.cells (cs.take m) ⟨false, ty⟩)))) : S cx n B todo Q fr σ := by
  have key : ∀ r w, Inv cx r σ w → Inv cx r (σ.set id (cur, some (.cells (cs.take m) ⟨false, ty⟩))) w ∧ Ext r σ w r (σ.set id (cur, some (.cells (cs.take m) ⟨false, ty⟩))) w := by
    intro r w hi
    refine hi.recast h (fun b o hb => ?_) (fun ro hro => by cases hro; exact ⟨_, by rw [List.take_nil]⟩)
    obtain ⟨c, t, lo, hi, h1, h2, h3, h4, h5⟩ := hb
    refine ⟨c, t, lo, hi, h1, fun i hil => ?_, fun x hx => h3 x (List.mem_of_mem_take hx), fun i a b c => (by cases (h4 i a b c).1), h5⟩
    have hil' : i < cs.length := by rw [List.length_take] at hil; omega
    obtain ⟨v, k1, k2⟩ := h2 i hil'
    exact ⟨v, k1, by rw [List.getElem_take]; exact k2⟩
  obtain ⟨c, k, hT⟩ := hT
  rcases hT with rfl | ⟨all, l, K, rfl⟩
  · intro r a w hi hf hd hx
    obtain ⟨q1, q2⟩ := key r w hi
    exact hk r a w q1 (hf.mono (q2.grow hi)) hd (hx.trans q2)
  · intro r a w hi hf hd hx
    obtain ⟨q1, q2⟩ := key r w hi
    exact hk r a w q1 (hf.mono (q2.grow hi)) hd (hx.trans q2)
end
end Go.Ab
end
section
set_option linter.unusedVariables false
set_option linter.unusedSimpArgs false
namespace Go.Ab
open Go
section
variable {cx : Cx} {n : Nat} {B : Bs} {k : List AI} {Q : Post} {fr : Fr} {σ : Heap}
theorem pan (f : Nat) {k k' : List AI} {fr fr' : Fr} {σ σ' : Heap} {C : List Prop} (hs : List Ht) {hs' : List Ht} (h : runP cx [] n f [] hs k fr σ = ⟨C, k', fr', σ', hs'⟩) (hC : AllP C)
    (hk : S cx n B k' Q fr' σ') : S cx n B k Q fr σ := by
  have hg := runP_sound (M := []) (cx := cx) (n := n) (B := B) (Q := Q) f [] hs k fr σ
  rw [h] at hg
  exact (hg hC).2 hk
end
theorem Calc.weak {cx : Cx} {f : FuncId} {args : List AV} {res res' : AV} (h : Calc cx f args res) (hf : Free true res') (hw : ∀ r w v, VRel r w v res → VRel r w v res') : Calc cx f args res' := by
  refine ⟨hf, h.call.1, fun r w vs hi hv => (h.call.2 r w vs hi hv).mono fun e w' ⟨out, σ', r', ⟨ho, hσ⟩, hor, hi', hx'⟩ => ?_⟩
  subst ho
  cases e with
  | returned u => exact ⟨.ret res', σ', r', ⟨rfl, hσ⟩, hw _ _ _ hor, hi', hx'⟩
  | panicked chain => exact hor.elim
  | outgrown => exact hor.elim
end Go.Ab
end
section
set_option linter.unusedVariables false
set_option linter.unusedSimpArgs false
namespace Go.Ab
open Go
theorem putAll_pre {σ τ es : Heap} {n : Nat} (hn : σ.length = n) (he : es.length = n) : putAll (σ ++ τ) (List.range n) es = es ++ τ := by
  have hl : (putAll (σ ++ τ) (List.range n) es).length = (es ++ τ).length := by
    rw [putAll_length _ _ _ (by simp; omega)]; simp; omega
  refine List.ext_getElem? fun i => ?_
  rcases Nat.lt_or_ge i n with h | h
  · rw [putAll_at (List.range n) es (σ ++ τ) i i List.nodup_range (fun j hj => by rw [List.mem_range] at hj; simp; omega) (by simp; omega) (by rw [List.getElem?_append_left (by simpa using h)]; simp [h]), List.getElem?_append_left (by omega)]
  · rcases Nat.lt_or_ge i (σ ++ τ).length with h2 | h2
    · rw [putAll_other _ _ _ i h2 (by simp; omega), List.getElem?_append_right (by omega), List.getElem?_append_right (by omega), hn, he]
    · rw [List.getElem?_eq_none (by rw [hl]; simp at h2 ⊢; omega), List.getElem?_eq_none (by simp at h2 ⊢; omega)]
def RnO (ids : List Nat) : Out → Prop
  | .ret v => Rn ids v v
  | .panic v => Rn ids v v
theorem CallOk.pre {cx : Cx} {f : FuncId} {args : List AV} {σ : Heap} {R : Out → Heap → Prop} (n : Nat) (τ : Heap) (h : CallOk cx f args σ R) (hn : σ.length = n) (ha : Rns (List.range n) args args) (hs : RnH (List.range n) σ σ)
    (hR : ∀ o s, R o s → s.length = n ∧ RnH (List.range n) s s ∧ RnO (List.range n) o) : CallOk cx f args (σ ++ τ) (fun o s => ∃ s0, s = s0 ++ τ ∧ R o s0) := by
  have hp : Part (List.range n) σ (σ ++ τ) := by
    refine ⟨List.nodup_range, fun j hj => by rw [List.mem_range] at hj; simp; omega, by simp [hn], fun i j e hi he => ?_⟩
    have hil : i < σ.length := by
      rcases Nat.lt_or_ge i σ.length with h' | h'
      · exact h'
      · rw [List.getElem?_eq_none h'] at he; cases he
    have : j = i := by
      rw [List.getElem?_range (by omega)] at hi; exact (Option.some.inj hi).symm
    subst this
    refine ⟨e, by rw [List.getElem?_append_left hil]; exact he, ?_⟩
    have h1 := hs.2 j hil hil
    rw [List.getElem?_eq_getElem hil] at he
    rw [Option.some.inj he] at h1; exact h1
  refine ⟨h.1, fun r w vs hi hv => ?_⟩
  have hsub := frame_down hi hp
  have hvs : VRels (r.sub (List.range n)) w vs args := by
    refine ⟨hv.1, fun i hi' => ?_⟩
    refine (ha.2 i hi' hi').down (r := r) (r' := r.sub (List.range n)) (fun _ h => h) (fun _ h => h) hi.SI (fun i j ver p h1 h2 => ?_) (hv.2 i hi')
    simp only [Rl.sub, h1]; exact h2
  refine (h.2 _ w vs hsub hvs).mono fun e w' ⟨out, σ1, r1, hRo, ho, hi1, hx1⟩ => ?_
  obtain ⟨k1, k2, k3⟩ := hR _ _ hRo
  have hids : List.range n = List.range n ++ newIds (σ ++ τ).length (σ1.length - (List.range n).length) := by
    rw [List.length_range, k1, Nat.sub_self]; simp [newIds]
  obtain ⟨q1, q2, q3⟩ := frame_up hi hp hi1 hx1 hids k2
  rw [putAll_pre hn k1] at q1 q2
  cases e <;> cases out <;> first | exact ho.elim | skip
  · exact ⟨_, _, _, ⟨σ1, rfl, hRo⟩, q3 _ _ _ k3 ho, q1, q2⟩
  · obtain ⟨u, hu1, hu2⟩ := ho
    exact ⟨_, _, _, ⟨σ1, rfl, hRo⟩, ⟨u, hu1, q3 _ _ _ k3 hu2⟩, q1, q2⟩
theorem putAll_mid {τ σ τ' es : Heap} {k n : Nat} (hk : τ.length = k) (hn : σ.length = n) (he : es.length = n) : putAll (τ ++ (σ ++ τ')) (List.range' k n) es = τ ++ (es ++ τ') := by
  have hl : (putAll (τ ++ (σ ++ τ')) (List.range' k n) es).length = (τ ++ (es ++ τ')).length := by
    rw [putAll_length _ _ _ (by simp; omega)]; simp; omega
  refine List.ext_getElem? fun i => ?_
  by_cases hm : k ≤ i ∧ i < k + n
  · obtain ⟨h1, h2⟩ := hm
    have e1 : (List.range' k n ++ newIds (τ ++ (σ ++ τ')).length (es.length - (List.range' k n).length))[i - k]? = some i := by
      rw [List.getElem?_append_left (by simp; omega), List.getElem?_range' (by omega)]
      congr 1; omega
    rw [putAll_at (List.range' k n) es (τ ++ (σ ++ τ')) (i - k) i List.nodup_range' (fun j hj => by rw [List.mem_range'_1] at hj; simp; omega) (by simp; omega) e1, List.getElem?_append_right (by omega), hk, List.getElem?_append_left (by omega)]
  · rcases Nat.lt_or_ge i (τ ++ (σ ++ τ')).length with h2 | h2
    · rw [putAll_other _ _ _ i h2 (by rw [List.mem_range'_1]; omega)]
      rcases Nat.lt_or_ge i k with h3 | h3
      · rw [List.getElem?_append_left (by omega), List.getElem?_append_left (by omega)]
      · rw [List.getElem?_append_right (by omega), List.getElem?_append_right (by omega), List.getElem?_append_right (by omega), List.getElem?_append_right (by omega), hn, he]
    · rw [List.getElem?_eq_none (by rw [hl]; simp at h2 ⊢; omega), List.getElem?_eq_none (by simp at h2 ⊢; omega)]
theorem CallOk.mid {cx : Cx} {f : FuncId} {args args' : List AV} {σ σ' σ2 σ2' : Heap} {x x' : AV} (k n : Nat) (τ τ' : Heap) (h : CallOk cx f args σ (fun e s => e = .ret x ∧ s = σ')) (hk : τ.length = k) (hn : σ.length = n) (hn' : σ'.length = n)
    (ha : Rns (List.range' k n) args args') (hs : RnH (List.range' k n) σ σ2) (hs' : RnH (List.range' k n) σ' σ2') (hx : Rn (List.range' k n) x x') : CallOk cx f args' (τ ++ (σ2 ++ τ')) (fun e s => e = .ret x' ∧ s = τ ++ (σ2' ++ τ')) := by
  have hn2 : σ2.length = n := hs.1.symm.trans hn
  have hn2' : σ2'.length = n := hs'.1.symm.trans hn'
  have hp : Part (List.range' k n) σ (τ ++ (σ2 ++ τ')) := by
    refine ⟨List.nodup_range', fun j hj => by rw [List.mem_range'_1] at hj; simp; omega, by simp [hn], fun i j e hi he => ?_⟩
    have hil : i < σ.length := by
      rcases Nat.lt_or_ge i σ.length with h' | h'
      · exact h'
      · rw [List.getElem?_eq_none h'] at he; cases he
    have : j = k + i := by
      rw [List.getElem?_range' (by omega)] at hi; have := Option.some.inj hi; omega
    subst this
    have hil2 : i < σ2.length := by omega
    refine ⟨σ2[i], by rw [List.getElem?_append_right (by omega), List.getElem?_append_left (by omega), hk, Nat.add_sub_cancel_left, List.getElem?_eq_getElem hil2], ?_⟩
    have h1 := hs.2 i hil hil2
    rw [List.getElem?_eq_getElem hil] at he
    rw [Option.some.inj he] at h1; exact h1
  refine ⟨h.1, fun r w vs hi hv => ?_⟩
  have hsub := frame_down hi hp
  have hvs : VRels (r.sub (List.range' k n)) w vs args := by
    refine ⟨hv.1.trans ha.1.symm, fun i hi' => ?_⟩
    refine (ha.2 i hi' (by rw [← ha.1]; exact hi')).down (r := r) (r' := r.sub (List.range' k n)) (fun _ h => h) (fun _ h => h) hi.SI (fun i j ver p h1 h2 => ?_) (hv.2 i (by rw [← ha.1]; exact hi'))
    simp only [Rl.sub, h1]; exact h2
  refine (h.2 _ w vs hsub hvs).mono fun e w' ⟨out, σ1, r1, hRo, ho, hi1, hx1⟩ => ?_
  obtain ⟨rfl, rfl⟩ := hRo
  have hids : List.range' k n = List.range' k n ++ newIds (τ ++ (σ2 ++ τ')).length (σ2'.length - (List.range' k n).length) := by
    rw [List.length_range', hn2', Nat.sub_self]; simp [newIds]
  obtain ⟨q1, q2, q3⟩ := frame_up hi hp hi1 hx1 hids hs'
  rw [putAll_mid hk hn2 hn2'] at q1 q2
  cases e with
  | returned u => exact ⟨.ret x', _, _, ⟨rfl, rfl⟩, q3 _ _ _ hx ho, q1, q2⟩
  | panicked chain => exact ho.elim
  | outgrown => exact ho.elim
end Go.Ab
end
section
set_option linter.unusedVariables false
set_option linter.unusedSimpArgs false
namespace Go.Ab
open Go
def MethP (P : Program) (T : TypeId) (name : String) (f : FuncId) : Prop := ∀ v w, (method (P.types.size + Made.depth) T v name).run P w = .ok (f, v) w
def MethL (P : Program) (T : TypeId) (name : String) (f : FuncId) (el : TypeId) : Prop := ∀ a w, (method (P.types.size + Made.depth) T (.pointer (some a)) name).run P w = ((loadVar el a).run P w).andThen fun x w' => .ok (f, x) w'
inductive Recv (cx : Cx) (σ : Heap) (T : TypeId) (name : String) (f : FuncId) : AV → AV → Prop
  | val {v} (h : MethP cx.P T name f) : Recv cx σ T name f v v
  | load {id ver off : Nat} {cs : List AV} {g : Tag} {el : TypeId} {x : AV} (h : MethL cx.P T name f el) (hb : boxAt σ id = some (ver, cs, g)) (hl : aLoad cx.P el (cs.drop off) = some x) : Recv cx σ T name f (.ptr id ver off) x
theorem Recv.run {cx : Cx} {r : Rl} {σ : Heap} {w : World} {T : TypeId} {name : String} {f : FuncId} {v x : AV} {z : Value} (hi : Inv cx r σ w) (h : Recv cx σ T name f v x) (hz : VRel r w z v) :
    ∃ u, (method (cx.P.types.size + Made.depth) T z name).run cx.P w = .ok (f, u) w ∧ VRel r w u x := by
  cases h with
  | val h => exact ⟨z, h z w, hz⟩
  | load h hb hl =>
    cases hz with
    | ptr hρ =>
      rename_i b' o _ _ _
      obtain ⟨v', h1, h2⟩ := aLoad_run (P := cx.P) ((hi.cells hb rfl hρ).cells'.drop _) hl
      exact ⟨v', by rw [h]; rw [h1]; rfl, h2⟩
section
variable {cx : Cx} {n : Nat} {B : Bs} {k : List AI} {Q : Post} {fr : Fr} {σ : Heap}
theorem OpSpec.store {o : Oper} {C : List Prop} {σ' : Heap} (h : storeA cx fr σ o.op = some (C, σ')) (hC : AllP C) : OpSpec cx n fr σ o (.tup []) σ' := by
  intro r a w hi hf
  have he : ∀ x, VRel r w (a.eval x) (ev cx fr x) := fun x => ev_rel hi hf x
  obtain ⟨dst, op, ty, pos, aft, guard⟩ := o
  simp only at h
  unfold storeA at h
  split at h
  case h_2 => cases h
  rename_i t s x
  have hs := he s
  have hx := he x
  split at h
  case h_2 => cases h
  rename_i m hm
  split at h
  case h_3 => cases h
  all_goals
    rename_i id ver off hse
    rw [hse] at hs
    split at h
    case h_2 => cases h
    rename_i cur cs hσ
    simp only [Option.some.injEq, Prod.mk.injEq] at h; obtain ⟨rfl, rfl⟩ := h
    obtain ⟨h1, h2, h3, h4, _⟩ := hC
    unfold execOp
    try simp only
    generalize hz : a.eval s = z at hs
    cases hs
    rename_i b o' hρ
    obtain ⟨w', r', k1, k2, k3⟩ := store_main hi hm hσ h3 h4 h1 (allOne_mem h2) hx hρ
    refine ⟨r', w', undef, .inr ⟨?_, rfl⟩, .tup rfl (fun i h => absurd h (by simp)), k2, k3⟩
    simp [Instr.storeAt, Instr.sureAddr, k1]
end
end Go.Ab
end
section
set_option linter.unusedVariables false
set_option linter.unusedSimpArgs false
namespace Go.Ab
open Go
theorem CallOk.frame {cx : Cx} {f : FuncId} {args args' : List AV} {σ σs σs' es : Heap} {x x' : AV} (ids : List Nat) (h : CallOk cx f args σs (fun e s => e = .ret x ∧ s = σs')) (ha : Rns ids args args') (hp : Part ids σs σ)
    (hes : RnH (ids ++ newIds σ.length (es.length - ids.length)) σs' es) (hx : Rn (ids ++ newIds σ.length (es.length - ids.length)) x x') : CallOk cx f args' σ (fun e s => e = .ret x' ∧ s = putAll σ ids es) := by
  refine ⟨h.1, fun r w vs hi hv => ?_⟩
  have hsub := frame_down hi hp
  have hvs : VRels (r.sub ids) w vs args := by
    refine ⟨hv.1.trans ha.1.symm, fun i hi' => ?_⟩
    refine (ha.2 i hi' (by rw [← ha.1]; exact hi')).down (r := r) (r' := r.sub ids) (fun _ h => h) (fun _ h => h) hi.SI (fun i j ver p h1 h2 => ?_) (hv.2 i (by rw [← ha.1]; exact hi'))
    simp only [Rl.sub, h1]; exact h2
  refine (h.2 _ w vs hsub hvs).mono fun e w' ⟨out, σ1, r1, hRo, ho, hi1, hx1⟩ => ?_
  obtain ⟨rfl, rfl⟩ := hRo
  obtain ⟨q1, q2, q3⟩ := frame_up hi hp hi1 hx1 rfl hes
  cases e with
  | returned u => exact ⟨.ret x', _, _, ⟨rfl, rfl⟩, q3 _ _ _ hx ho, q1, q2⟩
  | panicked chain => exact ho.elim
  | outgrown => exact ho.elim
theorem CallOk.fresh {cx : Cx} {f : FuncId} {args : List AV} {σs es : Heap} {x x' : AV} (σ : Heap) (h : CallOk cx f args [] (fun e s => e = .ret x ∧ s = σs)) (ha : ∀ a ∈ args, Free false a) (hes : RnH (newIds σ.length es.length) σs es) (hx : Rn (newIds σ.length es.length) x x') :
    CallOk cx f args σ (fun e s => e = .ret x' ∧ s = σ ++ es) := by
  have := CallOk.frame (σ := σ) (es := es) [] h (Rns.free ha) ⟨List.nodup_nil, (fun j hj => by cases hj), rfl, (fun i j e hi => by simp at hi)⟩ (by simpa using hes) (x' := x') (by simpa using hx)
  simpa only [putAll] using this
end Go.Ab
end
section
set_option linter.unusedVariables false
set_option linter.unusedSimpArgs false
namespace Go.Ab
open Go
structure KeyLaw {α : Type} [DecidableEq α] (cx : Cx) (kt : TypeId) (key : α → AV) : Prop where
  check : ∀ (e : Bool) (r : Rl) (w : World) (v : Value) (a : α), VRel r w v (key a) → (Instr.checkKey e 10000 kt v).run cx.P w = .ok () w
  equal : ∀ (r : Rl) (w : World) (u v : Value) (a b : α), VRel r w u (key a) → VRel r w v (key b) → (Op.equal kt u v).run cx.P w = .ok (decide (a = b)) w
  bits : ∀ (r : Rl) (w : World) (u v : Value) (a : α), VRel r w u (key a) → VRel r w v (key a) → Instr.sameBits 10000 u v = true
  slow : ∃ d, cx.P.underlying kt = some d ∧ ∀ k e l i, Instr.findNow d k (e :: l) i = none
def fieldsFit (P : Program) : List Field → List AV → Bool
  | [], _ => true
  | f :: fs, xs => match aLoad P f.type (xs.drop f.offset) with
    | some y => keyFits P f.type y && fieldsFit P fs xs
    | none => false
theorem checkKey_one {P : Program} {w : World} {k : TypeId} {key : Value} {r : Rl} {a : AV} (e : Bool) (d : Nat) (h : keyFits P k a = true) (ha : VRel r w key a) : (Instr.checkKey e (d + 1) k key).run P w = .ok () w := by
  obtain ⟨q, hu, hd⟩ := keyFits_spec h
  unfold Instr.checkKey
  rcases hd with ⟨rfl, s, rfl⟩ | ⟨j, rfl, n, m, rfl⟩ | ⟨rfl, x, rfl⟩ <;> cases ha <;> simp [run_underlying hu]
theorem checkKey_struct {P : Program} {w : World} {k : TypeId} {v : Value} {r : Rl} {az : List AV} {fs : Array Field} (e : Bool) (hu : P.underlying k = some (.struct fs)) (hf : fieldsFit P fs.toList az = true) (ha : VRel r w v (.agg az)) : (Instr.checkKey e 10000 k v).run P w = .ok () w := by
  have hva : ∃ xs, v = .agg xs := by cases ha; exact ⟨_, rfl⟩
  obtain ⟨xs, rfl⟩ := hva
  show (Instr.checkKey e (9998 + 1 + 1) k (.agg xs)).run P w = _
  rw [Instr.checkKey]
  simp only [Sem.run_bind, run_underlying hu, Result.andThen_ok]
  rw [← Array.forIn_toList]
  generalize fs.toList = L at hf
  induction L with
  | nil => simp
  | cons f L ih =>
    rw [fieldsFit] at hf
    split at hf
    case h_2 => cases hf
    rename_i y hy
    rw [Bool.and_eq_true] at hf
    obtain ⟨z, p1, p2⟩ := part_run ha hy
    have p3 := checkKey_one e 9998 hf.1 p2
    by_cases hn : f.name = "_"
    · simp only [List.forIn_cons, Sem.run_bind, hn, ne_eq, not_true_eq_false, if_false, Result.andThen_ok, Sem.run_pure]
      exact ih hf.2
    · simp only [List.forIn_cons, Sem.run_bind, hn, ne_eq, not_false_eq_true, if_true, Result.andThen_ok, p1, p3, Sem.run_pure]
      exact ih hf.2
theorem equal_struct {P : Program} {w : World} {t : TypeId} {u v : Value} {r : Rl} {az bs : List AV} {fs : Array Field} {b : Bool} (ht : P.underlying t = some (.struct fs)) (hc : cmpOk P t = true) (hb : eqFs P fs.toList az bs = some b) (hx : VRel r w u (.agg az)) (hy : VRel r w v (.agg bs)) :
    (Op.equal t u v).run P w = .ok b w := by
  have hxa : ∃ xs, u = .agg xs := by cases hx; exact ⟨_, rfl⟩
  have hya : ∃ xs, v = .agg xs := by cases hy; exact ⟨_, rfl⟩
  obtain ⟨xs, rfl⟩ := hxa
  obtain ⟨ys, rfl⟩ := hya
  have hfo : P.fieldsOf t = fs := by simp [Program.fieldsOf, ht]
  unfold cmpOk at hc
  rw [ht] at hc
  simp only [Bool.and_eq_true, Bool.not_eq_true', List.all_eq_true, bne_iff_ne] at hc
  show (Op.equalIn (9998 + 1 + 1) t _ _).run P w = _
  rw [run_equalIn_struct w (9998 + 1) t xs ys (by rw [hfo]; exact ht) hc.1.1, hfo]
  exact eqFs_run 9998 hx hy fs.toList hb hc.2
def plainA : AV → Bool
  | .str _ => true
  | .int _ _ => true
  | .bool _ => true
  | _ => false
theorem bits_one {r : Rl} {w : World} {u v : Value} {a : AV} (d : Nat) (h : plainA a = true) (hu : VRel r w u a) (hv : VRel r w v a) : Instr.sameBits d u v = true := by
  cases a <;> first | cases h | skip
  · cases hu; cases hv; unfold Instr.sameBits; simp
  · cases hu; cases hv; unfold Instr.sameBits; simp
  · cases hu with
    | str h1 =>
      cases hv with
      | str h2 =>
        unfold Instr.sameBits
        exact (MapKept.bytes_beq _ _).2 (ByteArray.ext (Array.toList_inj.1 (h1.trans h2.symm)))
theorem bits_struct {r : Rl} {w : World} {u v : Value} {az : List AV} (h : az.all plainA = true) (hu : VRel r w u (.agg az)) (hv : VRel r w v (.agg az)) : Instr.sameBits 10000 u v = true := by
  cases hu with
  | agg hn h1 =>
    cases hv with
    | agg hm h2 =>
      rename_i xs ys
      unfold Instr.sameBits
      rw [Bool.and_eq_true]
      refine ⟨by simp [hn, hm], ?_⟩
      rw [List.all_eq_true]
      rintro ⟨x, y⟩ hxy
      obtain ⟨i, hi, e⟩ := List.getElem_of_mem hxy
      rw [List.length_zip, Array.length_toList, Array.length_toList] at hi
      rw [List.getElem_zip] at e
      have hia : i < az.length := by omega
      have k1 := h1 i hia
      have k2 := h2 i hia
      have e1 : xs.getD i undef = x := by
        rw [Array.getD_eq_getD_getElem?, Array.getElem?_eq_getElem (by omega)]
        exact (congrArg Prod.fst e)
      have e2 : ys.getD i undef = y := by
        rw [Array.getD_eq_getD_getElem?, Array.getElem?_eq_getElem (by omega)]
        exact (congrArg Prod.snd e)
      rw [e1] at k1; rw [e2] at k2
      exact bits_one _ (List.all_eq_true.1 h _ (List.getElem_mem hia)) k1 k2
theorem KeyLaw.struct {α : Type} [DecidableEq α] {cx : Cx} {kt : TypeId} {fs : Array Field} {parts : α → List AV} (hu : cx.P.underlying kt = some (.struct fs)) (hc : cmpOk cx.P kt = true) (hf : ∀ a, fieldsFit cx.P fs.toList (parts a) = true) (hp : ∀ a, (parts a).all plainA = true)
    (he : ∀ a b, eqFs cx.P fs.toList (parts a) (parts b) = some (decide (a = b))) : KeyLaw cx kt (fun a => .agg (parts a)) where
  check := fun e r w v a h => checkKey_struct e hu (hf a) h
  equal := fun r w u v a b h1 h2 => equal_struct hu hc (he a b) h1 h2
  bits := fun r w u v a h1 h2 => bits_struct (hp a) h1 h2
  slow := ⟨_, hu, fun k e l i => rfl⟩
section
variable {α : Type} [DecidableEq α]
def mapG (key : α → AV) (ks : List α) (val : α → AV) : List (AV × AV) := ks.map fun k => (key k, val k)
theorem KeyLaw.find {cx : Cx} {kt : TypeId} {key : α → AV} (L : KeyLaw cx kt key) {r : Rl} {w : World} {a : α} {k : Value} (hk : VRel r w k (key a)) : ∀ (es : List MapEntry) (ks : List α) (i : Nat), es.length = ks.length → (∀ j (h : j < ks.length), ∃ e, es[j]? = some e ∧ VRel r w e.key (key ks[j])) →
    (a ∉ ks ∧ (Instr.findAsking kt k es i).run cx.P w = .ok none w) ∨ (a ∈ ks ∧ ∃ e, es[ks.idxOf a]? = some e ∧ (Instr.findAsking kt k es i).run cx.P w = .ok (some (i + ks.idxOf a, e.val)) w)
  | [], [], i, _, _ => .inl ⟨by simp, by simp [Instr.findAsking]⟩
  | [], _ :: _, _, hl, _ => by simp at hl
  | _ :: _, [], _, hl, _ => by simp at hl
  | e :: es, x :: ks, i, hl, hr => by
    obtain ⟨e0, q1, q2⟩ := hr 0 (by simp)
    simp only [List.getElem?_cons_zero, Option.some.injEq, List.getElem_cons_zero] at q1 q2
    subst q1
    have heq := L.equal r w k e.key a x hk q2
    by_cases hax : a = x
    · subst hax
      refine .inr ⟨by simp, e, by simp, ?_⟩
      rw [decide_eq_true rfl] at heq
      rw [Instr.findAsking]
      simp only [Sem.run_bind, heq, Result.andThen_ok, if_true, Sem.run_pure, List.idxOf_cons_self, Nat.add_zero]
    · rw [decide_eq_false hax] at heq
      have hf : (Instr.findAsking kt k (e :: es) i).run cx.P w = (Instr.findAsking kt k es (i + 1)).run cx.P w := by
        conv => lhs; rw [Instr.findAsking]
        simp [heq]
      have hx : (x == a) = false := by simpa using Ne.symm hax
      rcases KeyLaw.find L hk es ks (i + 1) (by simpa using hl) (fun j hj => by
        obtain ⟨e', m1, m2⟩ := hr (j + 1) (by simp; omega)
        exact ⟨e', by simpa using m1, by simpa using m2⟩) with ⟨h1, h2⟩ | ⟨h1, e', h2, h3⟩
      · exact .inl ⟨by simp [hax, h1], by rw [hf]; exact h2⟩
      · refine .inr ⟨List.mem_cons_of_mem _ h1, e', ?_, ?_⟩
        · rw [List.idxOf_cons, hx]; simpa using h2
        · rw [hf, h3, List.idxOf_cons, hx]
          simp only [cond_false]
          rw [show i + 1 + ks.idxOf a = i + (ks.idxOf a + 1) by omega]
theorem KeyLaw.findKey {cx : Cx} {kt : TypeId} {key : α → AV} (L : KeyLaw cx kt key) {r : Rl} {w : World} {a : α} {k : Value} (hk : VRel r w k (key a)) {es : Array MapEntry} {clock : Nat} {ks : List α} {val : α → AV} {st : Option (List Nat × Nat)} (hm : MapIs r w es clock (mapG key ks val) st) :
    (a ∉ ks ∧ (Instr.findKey kt k es.toList).run cx.P w = .ok none w) ∨ (a ∈ ks ∧ ∃ e, es[ks.idxOf a]? = some e ∧ VRel r w e.val (val a) ∧ VRel r w e.key (key a) ∧ (Instr.findKey kt k es.toList).run cx.P w = .ok (some (ks.idxOf a, e.val)) w) := by
  have hlen : (mapG key ks val).length = ks.length := by simp [mapG]
  have hat : ∀ j (h : j < ks.length), ∃ e, es[j]? = some e ∧ VRel r w e.key (key ks[j]) ∧ VRel r w e.val (val ks[j]) := by
    intro j hj
    obtain ⟨e, h1, h2, h3⟩ := hm.2.1 j (by omega)
    refine ⟨e, h1, ?_, ?_⟩
    · simpa [mapG] using h2
    · simpa [mapG] using h3
  obtain ⟨d, hd, hs⟩ := L.slow
  have h := L.find hk es.toList ks 0 (by rw [Array.length_toList, hm.1, hlen]) (fun j hj => by
    obtain ⟨e, h1, h2, _⟩ := hat j hj
    exact ⟨e, by rw [Array.getElem?_toList]; exact h1, h2⟩)
  have hfk : (Instr.findKey kt k es.toList).run cx.P w = (Instr.findAsking kt k es.toList 0).run cx.P w := by
    unfold Instr.findKey
    cases hes : es.toList with
    | nil => simp [run_underlying hd, Instr.findNow, Instr.findAsking]
    | cons e l => simp [run_underlying hd, hs]
  rw [hfk]
  rcases h with h | ⟨h1, e, h2, h3⟩
  · exact .inl h
  · refine .inr ⟨h1, e, by rw [← Array.getElem?_toList]; exact h2, ?_, ?_, by rw [h3, Nat.zero_add]⟩
    · obtain ⟨e', m1, m2, m3⟩ := hat _ (List.idxOf_lt_length_of_mem h1)
      rw [Array.getElem?_toList, m1] at h2
      obtain rfl := Option.some.inj h2
      rw [List.getElem_idxOf] at m3; exact m3
    · obtain ⟨e', m1, m2, m3⟩ := hat _ (List.idxOf_lt_length_of_mem h1)
      rw [Array.getElem?_toList, m1] at h2
      obtain rfl := Option.some.inj h2
      rw [List.getElem_idxOf] at m2; exact m2
variable {cx : Cx} {n : Nat} {fr : Fr} {σ : Heap}
end
end Go.Ab
end
section
set_option linter.unusedVariables false
set_option linter.unusedSimpArgs false
namespace Go.Ab
open Go
section
variable {cx : Cx} {n : Nat} {B : Bs} {k : List AI} {Q : Post} {fr : Fr} {σ : Heap}
theorem wpAny_frontG {σ' : Heap} {hp : Array Bool → Heap} {ops : Array Oper} {m : Nat} {vals : List AV} {K : List Nat} {Q' : Exit → Act → World → Prop} (hmN : m ≤ ops.size) (hlen : vals.length = m)
    (hread : ∀ j o t, j < m → ops.toList[j]? = some o → t ∈ slotsOf ops.toList o → readOk ops.toList m j t = true)
    (huniq : ∀ i j d, i < m → j < m → dstOf ops.toList i = some d → dstOf ops.toList j = some d → i = j)
    (hch : ∀ j, m < j → j < ops.size → edge ops.toList j (j - 1) = true) (hlo : ∀ j i, edge ops.toList j i = true → i < j)
    (hcl : m < ops.size → ∀ i, i < m → ∃ k, i < k ∧ k ≤ m ∧ edge ops.toList k i = true)
    (hin : ∀ listed : Array Bool, (∀ j, j < m → Listed listed j) → hp listed = σ') (hdst : ∀ (j : Nat) (o : Oper), j < m → ops.toList[j]? = some o → dstOk n o.dst = true)
    (hstep : ∀ (j : Nat) o v, j < m → ops.toList[j]? = some o → vals[j]? = some v → ∀ listed : Array Bool, listed.size = ops.size → ¬ Listed listed j → (∀ i, edge ops.toList j i = true → Listed listed i) → Down ops.toList listed → StepX cx n ops (hp listed) (hp (listed.setIfInBounds j true)) K (restr ops.toList o (ovl (ops.toList.take j) (vals.take j) fr)) o v)
    (hend : ∀ r a w, Inv cx r σ' w → FRel r w n (ovl (ops.toList.take m) vals fr) a → Dfs B a → Ext B.r B.σ B.w r σ' w → wpList cx.P ops Q' (ops.toList.drop m) a w) :
    ∀ (f : Nat) (listed : Array Bool) (r : Rl) (a : Act) (w : World), listed.size = ops.size → unl listed = f → Down ops.toList listed → (∀ j, m ≤ j → ¬ Listed listed j) →
      FL r w n fr ops.toList m vals listed a → Inv cx r (hp listed) w → Dfs B a → Ext B.r B.σ B.w r (hp listed) w → wpAny cx.P .any ops Q' f listed a w := by
  have ovlN : ∀ i, i ≤ m → ∀ vs, (ovl (ops.toList.take i) (vals.take i) fr).get n = .mark vs → fr.get n = .mark vs := by
    intro i him vs hm
    rcases ovl_get (ops.toList.take i) (vals.take i) fr n (by simp [hlen]; omega) with ⟨i', o', v', k1, k2, k3, k4⟩ | ⟨k1, k2⟩
    · exfalso
      have hi'i : i' < i := by
        rcases Nat.lt_or_ge i' i with h' | h'
        · exact h'
        · rw [List.getElem?_eq_none (by simp; omega)] at k1; cases k1
      rw [List.getElem?_take_of_lt hi'i] at k1 k3
      have hds : dstOk n o'.dst = true := hdst i' o' (by omega) k1
      rw [k2] at hds
      have := blt_lt hds
      omega
    · rw [← k2]; exact hm
  have fin : ∀ (f : Nat) (listed : Array Bool) (r : Rl) (a : Act) (w : World), listed.size = ops.size → unl listed = f → (∀ j, j < m → Listed listed j) → (∀ j, m ≤ j → ¬ Listed listed j) →
      FL r w n fr ops.toList m vals listed a → Inv cx r (hp listed) w → Dfs B a → Ext B.r B.σ B.w r (hp listed) w → wpAny cx.P .any ops Q' f listed a w := by
    intro f listed r a w hs hf hall hno hfl hi hd hx
    rw [hin _ hall] at hi hx
    have hcount : unl listed + m = ops.size := by
      have hl : listed.toList = List.replicate m true ++ List.replicate (ops.size - m) false := by
        apply List.ext_getElem
        · simp; omega
        · intro j h1 h2
          have hj : j < listed.size := by simpa using h1
          have h3 : listed.getD j false = listed.toList[j] := by simp [Array.getD_eq_getD_getElem?, hj]
          by_cases hjm : j < m
          · rw [List.getElem_append_left (by simpa using hjm), List.getElem_replicate, ← h3]; exact hall j hjm
          · rw [List.getElem_append_right (by simp; omega), List.getElem_replicate, ← h3]
            have := hno j (by omega)
            unfold Listed at this
            simpa using this
      unfold unl
      rw [hl, List.countP_append, List.countP_replicate, List.countP_replicate]
      simp; omega
    refine wpAny_tail hch hlo f m listed a w (by omega) (Nat.le_refl m) hs (fun i hi' => ⟨fun h => ?_, fun h => hall i h⟩) (hend r a w hi ⟨hfl.size, fun t => ?_, fun vs hm => ?_⟩ hd hx)
    case refine_3 =>
      refine hfl.defs vs (ovlN m (Nat.le_refl _) vs ?_)
      rw [show vals.take m = vals from List.take_of_length_le (by omega)]
      exact hm
    · rcases Nat.lt_or_ge i m with h' | h'
      · exact h'
      · exact absurd h (hno i h')
    · rcases ovl_get (ops.toList.take m) vals fr t (by simp [hlen]; omega) with ⟨i, o, v, h1, h2, h3, h4⟩ | ⟨h1, h2⟩
      · rw [h4]
        have him : i < m := by
          rcases Nat.lt_or_ge i m with h' | h'
          · exact h'
          · rw [List.getElem?_eq_none (by simp; omega)] at h1; cases h1
        rw [List.getElem?_take_of_lt him] at h1
        exact hfl.done i t v him (hall i him) (by simp [dstOf, h1, h2]) h3
      · rw [h2]
        refine hfl.rest t (fun j hj _ hdj => ?_)
        obtain ⟨o, ho, hod⟩ := Option.bind_eq_some_iff.1 hdj
        exact h1 j o (by rw [List.getElem?_take_of_lt hj]; exact ho) hod
  intro f
  induction f with
  | zero =>
    intro listed r a w hs hf hdn hno hfl hi hd hx
    refine fin 0 listed r a w hs hf (fun j hj => ?_) hno hfl hi hd hx
    rcases hb : listed.getD j false with _ | _
    · have := unl_set (by omega) hb
      omega
    · exact hb
  | succ f ih =>
    intro listed r a w hs hf hdn hno hfl hi hd hx
    by_cases hall : ∀ j, j < m → Listed listed j
    · exact fin (f + 1) listed r a w hs hf hall hno hfl hi hd hx
    have hex : ∃ j, j < m ∧ ¬ Listed listed j := by
      apply Classical.byContradiction
      intro h
      exact hall (fun j hj => Classical.byContradiction fun hl => h ⟨j, hj, hl⟩)
    refine ⟨fun h0 => ?_, fun i hir => ?_⟩
    · obtain ⟨j, h1, h2, h3⟩ := exists_least m hex
      have hjr : j ∈ Region.ready .any ops listed := by
        refine mem_ready.2 ⟨?_, ops[j]'(by omega), Array.getElem?_eq_getElem _, fun e he hb => ?_⟩
        · rw [listed_true (by omega)]; simpa [Listed] using h2
        · have h4 : e.on < j := hlo j e.on (edge_iff.2 ⟨ops[j]'(by omega), Array.getElem?_eq_getElem _, e, he, hb, rfl⟩)
          exact Classical.byContradiction fun h5 => h3 e.on h4 h5
      rw [h0] at hjr; cases hjr
    · obtain ⟨h0, o, ho, hedges⟩ := mem_ready.1 hir
      have hilt := (Array.getElem?_eq_some_iff.1 ho).1
      rw [listed_true (by omega)] at h0
      have hed : ∀ j, edge ops.toList i j = true → Listed listed j := by
        intro j hj
        obtain ⟨o', ho', e, he, hb, hon⟩ := edge_iff.1 hj
        rw [ho] at ho'; cases ho'
        rw [← hon]; exact hedges e he hb
      have him : i < m := by
        rcases Nat.lt_or_ge i m with h' | h'
        · exact h'
        · exfalso
          rcases Nat.eq_or_lt_of_le h' with h'' | h''
          · subst h''
            refine hall (fun j hj => ?_)
            have key : ∀ d j, d + j = m → j < m → Listed listed j := by
              intro d
              induction d using Nat.strongRecOn with
              | _ d ihd =>
                intro j hdj hj
                obtain ⟨k, h1, h2, h3⟩ := hcl hilt j hj
                rcases Nat.eq_or_lt_of_le h2 with h4 | h4
                · subst h4; exact hed j h3
                · exact hdn k j (ihd (m - k) (by omega) k (by omega) h4) h3
            exact key (m - j) j (by omega) hj
          · exact hno (i - 1) (by omega) (hed _ (hch i h'' hilt))
      have hol : ops.toList[i]? = some o := by simpa using ho
      obtain ⟨v, hv⟩ : ∃ v, vals[i]? = some v := ⟨vals[i]'(by omega), List.getElem?_eq_getElem _⟩
      have hX : StepX cx n ops (hp listed) (hp (listed.setIfInBounds i true)) K (restr ops.toList o (ovl (ops.toList.take i) (vals.take i) fr)) o v :=
        hstep i o v him hol hv listed hs (by simp [Listed, h0]) hed hdn
      obtain ⟨hdstI, hst⟩ := hX
      have hnl : ¬ Listed listed i := by simp [Listed, h0]
      have hfr : FRel r w n (restr ops.toList o (ovl (ops.toList.take i) (vals.take i) fr)) a := by
        refine ⟨hfl.size, fun t => ?_, fun vs hm => ?_⟩
        case refine_2 =>
          unfold restr at hm
          rcases restr_get (slotsOf ops.toList o) (ovl (ops.toList.take i) (vals.take i) fr) n with h | ⟨h1, h2⟩
          · rw [h] at hm; cases hm
          · rw [h2] at hm
            exact hfl.defs vs (ovlN i (by omega) vs hm)
        unfold restr
        rcases restr_get (slotsOf ops.toList o) (ovl (ops.toList.take i) (vals.take i) fr) t with h | ⟨h1, h2⟩
        · rw [h]; exact .top
        · rw [h2]
          have hro := hread i o t him hol h1
          have hrd : ∀ i', i' < m → dstOf ops.toList i' = some t → (i' < i → edge ops.toList i i' = true) ∧ (i < i' → edge ops.toList i' i = true) := by
            intro i' hi' hd'
            have := allB_mem hro _ (List.mem_map.2 ⟨i', List.mem_range.2 hi', rfl⟩)
            rw [eqDst_iff.2 hd'] at this
            simp only at this
            constructor
            · intro hlt
              rw [lt_blt hlt] at this
              exact this
            · intro hlt
              rw [show Nat.blt i' i = false by cases hbb : Nat.blt i' i with | false => rfl | true => (have := blt_lt hbb; omega), show Nat.beq i' i = false by cases hbb : Nat.beq i' i with | false => rfl | true => (have := Nat.eq_of_beq_eq_true hbb; omega)] at this
              exact this
          rcases ovl_get (ops.toList.take i) (vals.take i) fr t (by simp [hlen]; omega) with ⟨i', o', v', k1, k2, k3, k4⟩ | ⟨k1, k2⟩
          · rw [k4]
            have hi'i : i' < i := by
              rcases Nat.lt_or_ge i' i with h' | h'
              · exact h'
              · rw [List.getElem?_eq_none (by simp; omega)] at k1; cases k1
            rw [List.getElem?_take_of_lt hi'i] at k1 k3
            have hd' : dstOf ops.toList i' = some t := by simp only [dstOf, k1, Option.bind_some, k2]
            exact hfl.done i' t v' (by omega) (hed _ ((hrd i' (by omega) hd').1 hi'i)) hd' k3
          · rw [k2]
            refine hfl.rest t (fun j hj hlj hdj => ?_)
            rcases Nat.lt_trichotomy j i with h' | h' | h'
            · obtain ⟨oj, hoj, hod⟩ := Option.bind_eq_some_iff.1 hdj
              exact k1 j oj (by rw [List.getElem?_take_of_lt h']; exact hoj) hod
            · subst h'; exact hnl hlj
            · exact hnl (hdn j i hlj ((hrd j hj hdj).2 h'))
      have next : ∀ (r' : Rl) (w' : World) (v' : Value), VRel r' w' v' v → Inv cx r' (hp (listed.setIfInBounds i true)) w' → Ext r (hp listed) w r' (hp (listed.setIfInBounds i true)) w' → wpAny cx.P .any ops Q' f (listed.setIfInBounds i true) (a.put o.dst v') w' := by
        intro r' w' v' hv' hi' hx'
        have hun := unl_set (by omega) h0
        refine ih _ r' _ w' (by simpa using hs) (by omega) (fun j l hj he => ?_) (fun j hj hl => ?_) ⟨?_, fun j d u hj hl hdj hu => ?_, fun t ht => ?_, fun vs hm => by rw [Act.put_defers]; exact (hfl.defs vs hm).mono (hx'.grow hi)⟩ hi' (hd.put _ _) (hx.trans hx')
        · rw [listed_set (by omega)] at hj ⊢
          rcases hj with rfl | hj
          · exact .inr (hed l he)
          · exact .inr (hdn j l hj he)
        · rw [listed_set (by omega)] at hl
          rcases hl with rfl | hl
          · omega
          · exact hno j hj hl
        · cases hod : o.dst <;> simp [Act.put, hfl.size]
        · have hg := hx'.grow hi
          rw [listed_set (by omega)] at hl
          by_cases hji : j = i
          · subst hji
            rw [hv] at hu; cases hu
            have hod : o.dst = some d := by simpa [dstOf, hol] using hdj
            rw [hod]
            rw [hod] at hdstI
            simp only [Act.put]
            rw [getD_setIfInBounds (by rw [hfl.size]; exact blt_lt hdstI), if_pos rfl]
            exact hv'
          · have hl' := hl.resolve_left hji
            have hold := (hfl.done j d u hj hl' hdj hu).mono hg
            cases hod : o.dst with
            | none => exact hold
            | some d' =>
              have hne : d' ≠ d := fun e => hji (huniq j i d hj him hdj (by subst e; simp [dstOf, hol, hod]))
              rw [hod] at hdstI
              simp only [Act.put]
              rw [getD_setIfInBounds (by rw [hfl.size]; exact blt_lt hdstI), if_neg hne]
              exact hold
        · have hg := hx'.grow hi
          have hold := (hfl.rest t (fun j hj hl => ht j hj ((listed_set (by omega)).2 (.inr hl)))).mono hg
          have hti := ht i him ((listed_set (by omega)).2 (.inl rfl))
          cases hod : o.dst with
          | none => exact hold
          | some d' =>
            have hne : d' ≠ t := fun e => hti (by subst e; simp [dstOf, hol, hod])
            rw [hod] at hdstI
            simp only [Act.put]
            rw [getD_setIfInBounds (by rw [hfl.size]; exact blt_lt hdstI), if_neg hne]
            exact hold
      unfold wpOp
      simp only [ho]
      rcases hst with ⟨hg, rfl, hσ⟩ | ⟨hg, hgo⟩
      · rw [guardA_wanted (cx := cx) hfr hg]
        simp only [Bool.false_eq_true, if_false]
        exact next r w undef (.tup rfl (fun i h => absurd h (by simp))) (by rw [hσ]; exact hi) (by rw [hσ]; exact Ext.refl _ _ _)
      · rw [guardA_wanted (cx := cx) hfr hg]
        simp only [if_true]
        refine .inl (Oper.wp_mono (fun a' w' h => ?_) (hgo r a w hi hfr Q'))
        obtain ⟨r', v', rfl, h2, h3, h4⟩ := h
        exact next r' w' v' h2 h3 h4
def hp2 (σ σ1 σ2 : Heap) (j1 j2 : Nat) (listed : Array Bool) : Heap := bif listed.getD j2 false then σ2 else bif listed.getD j1 false then σ1 else σ
theorem OpSpec.aop {σ' : Heap} {o : Oper} {C : List Prop} {v : AV} (h : aOp cx [] o.dst o.op fr σ = some (C, v, σ')) (hC : AllP C) : OpSpec cx n fr σ o v σ' := fun r a w hi hf => aOp_run hi hf h hC
end
end Go.Ab
end
section
set_option linter.unusedVariables false
set_option linter.unusedSimpArgs false
namespace Go.Ab
open Go
section
variable {cx : Cx} {n : Nat} {B : Bs} {k : List AI} {Q : Post} {fr : Fr} {σ : Heap}
theorem OpSpec.loadE {o : Oper} {t : TypeId} {a : Operand} {m id ver off : Nat} {cs : List AV} {g : Tag} {x : AV} (ho : o.op = .load t a) (ha : aggT cx.P t = some false) (hm : szOf cx.P t = some m) (hea : ev cx fr a = .eptr id ver off)
    (hσ : σ[id]? = some (ver, some (.cells cs g))) (hx : (cs.drop off)[0]? = some x) : OpSpec cx n fr σ o x σ := by
  intro r ac w hi hf
  refine loadA_run (C := [ver = ver, (cs.drop off)[0]? = some x]) hi hf ?_ ⟨rfl, hx, trivial⟩
  rw [ho]
  simp only [loadA, ha, hm, hea, boxAt, hσ, loadA.loadC]
theorem firstDead_no : ∀ (σ : Heap) (k : Nat), (∀ e ∈ σ, ∃ x, e.2 = some x) → firstDead σ k = none
  | [], _, _ => rfl
  | (v, y) :: r, k, h => by
    obtain ⟨x, hx⟩ := h (v, y) (List.mem_cons_self ..)
    have hx : y = some x := hx
    subst hx
    exact firstDead_no r (k + 1) (fun e he => h e (List.mem_cons_of_mem _ he))
end
end Go.Ab
end
section
set_option linter.unusedVariables false
set_option linter.unusedSimpArgs false
namespace Go.Ab
open Go
theorem Inv.del {cx : Cx} {r : Rl} {σ : Heap} {w : World} {id ver b o n i sz : Nat} {cs : List AV} {ty : Option TypeId} {zs : List Value} (hi : Inv cx r σ w) (hσ : σ[id]? = some (ver, some (.cells cs ⟨false, ty⟩))) (hρ : r.ρ id ver = some (b, o)) (hcs : cs.length = n * sz) (hin : i < n) (hz : zs.length = sz) (hne : cs ≠ []) :
    ∃ vals : List Value, vals.length = n * sz ∧ (∀ k, k < vals.length → w.cell? ⟨b, o + k, none⟩ = vals[k]?) ∧ (∀ k, k < vals.length → w.frozen? ⟨b, o + k, none⟩ = false) ∧ (∀ v ∈ vals, v.oneCell' = true) ∧
      ∀ w2, w2 = (w.drew.setCells b (o + i * sz) (vals.drop ((i + 1) * sz))).setCells b (o + (n - 1) * sz) zs →
        ∃ r', Inv cx r' (σ.set id (ver, some (.cells (cs.take (i * sz) ++ cs.drop ((i + 1) * sz)) ⟨false, ty⟩))) w2 ∧ Ext r σ w r' (σ.set id (ver, some (.cells (cs.take (i * sz) ++ cs.drop ((i + 1) * sz)) ⟨false, ty⟩))) w2 ∧ r'.ρ id ver = some (b, o) ∧
          ∀ c t f, w.heap[b]? = some (.cells c t f) → ∃ c' f', w2.heap[b]? = some (.cells c' t f') ∧ c'.size = c.size := by
  have hbx : boxAt σ id = some (ver, cs, ⟨false, ty⟩) := by simp [boxAt, hσ]
  obtain ⟨c, t, lo, hi', q1, q2, q3, q4, q5⟩ := hi.cells hbx rfl hρ
  have hid : id < σ.length := by
    rcases Nat.lt_or_ge id σ.length with h | h
    · exact h
    · rw [List.getElem?_eq_none h] at hσ; cases hσ
  have hlast : o + cs.length ≤ c.size := by
    have hl : 0 < cs.length := List.length_pos_iff.2 hne
    obtain ⟨v, h1, _⟩ := q2 (cs.length - 1) (by omega)
    have := (Array.getElem?_eq_some_iff.1 h1).1
    omega
  have hfit : i * sz + (n - (i + 1)) * sz + sz = n * sz := by
    rw [← Nat.add_mul, show i + (n - (i + 1)) = n - 1 by omega]
    have : (n - 1 + 1) * sz = n * sz := by rw [show n - 1 + 1 = n by omega]
    rw [← this, Nat.add_mul, Nat.one_mul]
  have hn1 : (n - 1) * sz + sz = n * sz := by
    have : (n - 1 + 1) * sz = n * sz := by rw [show n - 1 + 1 = n by omega]
    rw [← this, Nat.add_mul, Nat.one_mul]
  have hi1 : (i + 1) * sz = i * sz + sz := by rw [Nat.add_mul, Nat.one_mul]
  refine ⟨(c.toList.drop o).take (n * sz), ?_, ?_, ?_, ?_, ?_⟩
  · rw [List.length_take, List.length_drop, Array.length_toList]; omega
  · intro k hk
    rw [List.length_take, List.length_drop, Array.length_toList] at hk
    have hlt : o + k < c.size := by omega
    simp only [World.cell?, q1]
    rw [List.getElem?_take_of_lt (by omega), List.getElem?_drop, Array.getElem?_toList]
    try rfl
  · intro k hk
    rw [List.length_take, List.length_drop, Array.length_toList] at hk
    have hlt : o + k < c.size := by omega
    simp only [World.frozen?, q1]
    by_cases hf : lo ≤ o + k ∧ o + k < hi'
    · have := (q4 _ hf.1 hf.2 hlt).1; cases this
    · simp only [Bool.and_eq_false_iff, decide_eq_false_iff_not]
      by_cases h1 : lo ≤ o + k
      · right; intro h2; exact hf ⟨h1, h2⟩
      · left; exact h1
  · intro v hv
    obtain ⟨k, hk, rfl⟩ := List.getElem_of_mem hv
    have hk0 := hk
    rw [List.length_take, List.length_drop, Array.length_toList] at hk
    obtain ⟨u, h1, h2⟩ := q2 k (by omega)
    rw [List.getElem_take, List.getElem_drop, Array.getElem_toList]
    rw [Array.getElem?_eq_getElem (by omega)] at h1
    simp only [Option.some.injEq] at h1
    rw [h1]
    exact h2.one (q3 _ (List.getElem_mem _))
  · intro w2 hw2
    generalize hvals : (c.toList.drop o).take (n * sz) = vals at hw2
    have hvl : vals.length = n * sz := by rw [← hvals, List.length_take, List.length_drop, Array.length_toList]; omega
    have hvg : ∀ k, k < n * sz → vals[k]? = c[o + k]? := fun k hk => by
      rw [← hvals, List.getElem?_take_of_lt hk, List.getElem?_drop, Array.getElem?_toList]
    have hnl : (vals.drop ((i + 1) * sz)).length = (n - (i + 1)) * sz := by rw [List.length_drop, hvl]; omega
    have hq1 : w.drew.heap[b]? = some (.cells c t (lo, hi')) := q1
    obtain ⟨c1, h1, h2, h3, h4, h5, h6, h7, h8⟩ := setCells_heap b (vals.drop ((i + 1) * sz)) (o + i * sz) w.drew c t (lo, hi') hq1 (by rw [hnl]; omega)
    obtain ⟨c2, k1, k2, k3, k4, k5, k6, k7, k8⟩ := setCells_heap b zs (o + (n - 1) * sz) (w.drew.setCells b (o + i * sz) (vals.drop ((i + 1) * sz))) c1 t (lo, hi') h1 (by rw [hz, h2]; omega)
    rw [← hw2] at k1 k4 k5 k6 k7 k8
    have hlen : (cs.take (i * sz) ++ cs.drop ((i + 1) * sz)).length = (n - 1) * sz := by rw [List.length_append, List.length_take, List.length_drop]; omega
    have hu := hi.update (σ' := σ.set id (ver, some (.cells (cs.take (i * sz) ++ cs.drop ((i + 1) * sz)) ⟨false, ty⟩))) (id := id) (ver := ver) (b := b) (o := o) (x := .cells (cs.take (i * sz) ++ cs.drop ((i + 1) * sz)) ⟨false, ty⟩)
      (w' := w2) (by simp [hid]) (fun j hj => by rw [List.getElem?_set, if_neg (Ne.symm hj)])
      (fun c2 y hy => by rw [hσ] at hy; simp only [Option.some.injEq, Prod.mk.injEq] at hy; exact .inr ⟨hy.1.symm, hρ⟩) (.inr ⟨ver, _, o, hσ, hρ⟩) (fun k hk hkb => (k4 k hkb).trans (h4 k hkb)) (by rw [k5, h5]; exact Nat.le_refl _)
      (fun c3 t2 f2 hc2 => by rw [q1] at hc2; simp only [Option.some.injEq, Obj.cells.injEq] at hc2; obtain ⟨rfl, rfl, rfl⟩ := hc2; exact ⟨c2, _, k1, k2.trans h2⟩) (k6.trans h6) (k7.trans h7) (k8.trans h8)
      (fun g => by
        refine ⟨c2, t, lo, hi', k1, fun k hk => ?_, fun y hy => ?_, fun k a1 a2 a3 => ?_, q5⟩
        · have hk0 := hk
          rw [hlen] at hk
          have hc2 : c2[o + k]? = if i * sz ≤ k then vals[k + sz]? else c[o + k]? := by
            rw [k3, if_neg (by omega), h3]
            by_cases hik : i * sz ≤ k
            · rw [if_pos (by rw [hnl]; omega), if_pos hik, List.getElem?_drop]
              congr 1; omega
            · rw [if_neg (by omega), if_neg hik]
          by_cases hik : i * sz ≤ k
          · rw [if_pos hik, hvg (k + sz) (by omega)] at hc2
            obtain ⟨u, e1, e2⟩ := q2 (k + sz) (by omega)
            refine ⟨u, by rw [hc2, e1], ?_⟩
            have : (cs.take (i * sz) ++ cs.drop ((i + 1) * sz))[k] = cs[k + sz]'(by omega) := by
              rw [List.getElem_append_right (by rw [List.length_take]; omega), List.getElem_drop]
              congr 1
              rw [List.length_take]; omega
            rw [this]
            exact e2.mono g
          · rw [if_neg hik] at hc2
            obtain ⟨u, e1, e2⟩ := q2 k (by omega)
            refine ⟨u, by rw [hc2, e1], ?_⟩
            have : (cs.take (i * sz) ++ cs.drop ((i + 1) * sz))[k] = cs[k]'(by omega) := by
              rw [List.getElem_append_left (by rw [List.length_take]; omega), List.getElem_take]
            rw [this]
            exact e2.mono g
        · rcases List.mem_append.1 hy with h | h
          · exact q3 y (List.mem_of_mem_take h)
          · exact q3 y (List.mem_of_mem_drop h)
        · have hlt : k < c.size := by rw [k2, h2] at a3; exact a3
          have := (q4 k a1 a2 hlt).1
          cases this)
    refine ⟨_, hu.1, hu.2, by simp [Rl.bind], fun c3 t3 f3 h3 => ?_⟩
    rw [q1] at h3
    cases h3
    exact ⟨c2, _, k1, k2.trans h2⟩
end Go.Ab
end
section
set_option linter.unusedVariables false
set_option linter.unusedSimpArgs false
namespace Go.Ab
open Go
section
variable {cx : Cx} {n : Nat} {B : Bs} {k : List AI} {Q : Post} {fr : Fr} {σ : Heap}
def Alive (σ : Heap) : Prop := ∀ e ∈ σ, ∃ x, e.2 = some x
theorem Alive.app {σ : Heap} (h : Alive σ) (v : Nat) (x : Box) : Alive (σ ++ [(v, some x)]) := fun e he => by
  rcases List.mem_append.1 he with he | he
  · exact h e he
  · rw [List.mem_singleton.1 he]; exact ⟨x, rfl⟩
theorem Alive.set {σ : Heap} (h : Alive σ) (i v : Nat) (x : Box) : Alive (σ.set i (v, some x)) := fun e he => by
  rcases List.mem_or_eq_of_mem_set he with he | he
  · exact h e he
  · rw [he]; exact ⟨x, rfl⟩
theorem Alive.set' {σ : Heap} (h : Alive σ) {y : Nat × Option Box} (hy : ∃ x, y.2 = some x) (i : Nat) : Alive (σ.set i y) := fun e he => by
  rcases List.mem_or_eq_of_mem_set he with he | he
  · exact h e he
  · rw [he]; exact hy
theorem Alive.alloc {σ : Heap} (h : Alive σ) (x : Box) : allocH σ x = (σ.length, 0, σ ++ [(0, some x)]) := by unfold allocH; rw [firstDead_no σ 0 h]
theorem OpSpec.loadP {o : Oper} {t : TypeId} {a : Operand} {m id ver off : Nat} {cs : List AV} {g : Tag} {x : AV} (ho : o.op = .load t a) (ha : aggT cx.P t = some false) (hm : szOf cx.P t = some m) (hea : ev cx fr a = .ptr id ver off)
    (hσ : σ[id]? = some (ver, some (.cells cs g))) (hx : (cs.drop off)[0]? = some x) : OpSpec cx n fr σ o x σ := by
  intro r ac w hi hf
  refine loadA_run (C := [ver = ver, (cs.drop off)[0]? = some x]) hi hf ?_ ⟨rfl, hx, trivial⟩
  rw [ho]
  simp only [loadA, ha, hm, hea, boxAt, hσ, loadA.loadC]
theorem OpSpec.storeP {o : Oper} {t : TypeId} {a x : Operand} {m id ver off : Nat} {cs : List AV} {gT : Option TypeId} {y : AV} {σ' : Heap} (ho : o.op = .store t a x) (hm : szOf cx.P t = some m) (hea : ev cx fr a = .ptr id ver off) (hx : ev cx fr x = y) (hyc : y.cells.length = m) (hy : allOne y.cells = true)
    (hσ : σ[id]? = some (ver, some (.cells cs ⟨false, gT⟩))) (hoff : off + m ≤ cs.length) (hσ' : σ' = σ.set id (ver, some (.cells (setRange cs off y.cells) ⟨false, gT⟩))) : OpSpec cx n fr σ o (.tup []) σ' := by
  subst hσ'
  refine OpSpec.store (C := [y.cells.length = m, allOne y.cells = true, ver = ver, off + m ≤ cs.length]) ?_ ⟨hyc, hy, rfl, hoff, trivial⟩
  rw [ho]
  simp only [storeA, hm, hea, hσ, hx]
theorem OpSpec.allocE {o : Oper} {e : TypeId} {z : List AV} {g : Option TypeId} (ho : o.op = .alloc e) (hz : zeroA cx.P e = some z) (h1 : allOne z = true) (hg : tyS cx.P e = g) (hσ : Alive σ) : OpSpec cx n fr σ o (.ptr σ.length 0 0) (σ ++ [(0, some (.cells z ⟨false, g⟩))]) := by
  refine OpSpec.aop (C := []) ?_ trivial
  rw [ho]
  simp only [aOp, hz, h1, cond_true, hg, hσ.alloc]
theorem OpSpec.boxE {o : Oper} {e : TypeId} {x : Operand} {y : AV} {g : Option TypeId} (ho : o.op = .box e x) (hx : ev cx fr x = y) (h1 : allOne y.cells = true) (hg : tyS cx.P e = g) (hσ : Alive σ) : OpSpec cx n fr σ o (.ptr σ.length 0 0) (σ ++ [(0, some (.cells y.cells ⟨false, g⟩))]) := by
  refine OpSpec.aop (C := []) ?_ trivial
  rw [ho]
  simp only [aOp, hx, h1, cond_true, hg, hσ.alloc]
theorem OpSpec.appendX {o : Oper} {s x : Operand} {t u : TypeId} {e sz by_ id ver off len : Nat} {st fl : Bool} {cs : List AV} {y : AV} {σ' : Heap} (ho : o.op = .call { callee := .builtin .append, args := #[s, x], argTypes := #[t, u] }) (hel : elemInfo cx.P t = some (e, sz, by_)) (hnt : notInt cx.P u = true)
    (hs : ev cx fr s = .ms id ver off len sz false) (hx : ev cx fr x = .sl st fl sz [y]) (hy : ∀ z ∈ flatA sz [y], z.one = true) (hσ : σ[id]? = some (ver, some (.cells cs ⟨false, none⟩))) (hl : off + len * sz = cs.length) (hb : (len + 1) * by_ ≤ 140737488355328) (hb2 : len + 1 ≤ 9223372036854775807)
    (hσ' : σ' = σ.set id (ver + 1, some (.cells (cs.drop off ++ flatA sz [y]) ⟨false, none⟩))) : OpSpec cx n fr σ o (.ms id (ver + 1) 0 (len + 1) sz false) σ' := by
  subst hσ'
  refine OpSpec.aop (C := [sz = sz, ∀ z ∈ flatA sz [y], z.one = true] ++ [∀ z ∈ flatA sz [y], z.one = true, ver = ver, sz = sz, off + len * sz = cs.length, (len + [y].length) * by_ ≤ 140737488355328, len + [y].length ≤ 9223372036854775807]) ?_ ⟨rfl, hy, hy, rfl, rfl, hl, hb, hb2, trivial⟩
  rw [ho]
  show aAppend cx.P t u (ev cx fr s) (ev cx fr x) σ = _
  rw [hs, hx]
  unfold aAppend
  rw [hel]
  have ht : tagOn cx.P e off ⟨false, none⟩ = ⟨false, none⟩ := by unfold tagOn; cases off <;> rfl
  simp only [hnt, cond_true, aSrc, hσ, ht, dropA_eq]
  rfl
end
end Go.Ab
end
section
set_option linter.unusedVariables false
set_option linter.unusedSimpArgs false
namespace Go.Ab
open Go
section
variable {cx : Cx} {n : Nat} {B : Bs} {k : List AI} {Q : Post} {fr : Fr} {σ : Heap}
def gotV (z : AV) : Option (Nat × AV) → AV
  | some p => p.2
  | none => z
theorem OpSpec.lookG {o : Oper} {t kt et : TypeId} {m key : Operand} {ok : Bool} {id ver : Nat} {kvs : List (AV × AV)} {st : Option (List Nat × Nat)} {z a : AV} (h : Option (Nat × AV)) (ho : o.op = .lookup t m key ok) (ht : cx.P.underlying t = some (.map kt et)) (hkey : ev cx fr key = a) (hk : keyFits cx.P kt a = true)
    (hm : ev cx fr m = .map id ver) (hσ : σ[id]? = some (ver, some (.map kvs st))) (hf : findK a kvs 0 = some h) (hz : zeroV cx.P et = some z) {v : AV} (hv : okV ok (gotV z h) h.isSome = v) :
    OpSpec cx n fr σ o v σ := by
  subst hv
  refine OpSpec.map h (C := [ver = ver, findK (ev cx fr key) kvs 0 = some h]) ?_ ⟨rfl, by rw [hkey]; exact hf, trivial⟩
  rw [ho, mapA, ht, hkey]
  simp only [hk, hm, hσ]
  cases h with
  | none => simp only [hz]; rfl
  | some p => rfl
theorem OpSpec.delG {o : Oper} {t u kt et : TypeId} {m key : Operand} {id ver : Nat} {kvs : List (AV × AV)} {st : Option (List Nat × Nat)} {a : AV} (h : Option (Nat × AV)) (ho : o.op = .call { callee := .builtin .delete, args := #[m, key], argTypes := #[t, u] }) (ht : cx.P.underlying t = some (.map kt et)) (hkey : ev cx fr key = a) (hk : keyFits cx.P kt a = true)
    (hm : ev cx fr m = .map id ver) (hσ : σ[id]? = some (ver, some (.map kvs st))) (hf : findK a kvs 0 = some h) {σ' : Heap} (hσ' : σ.set id (ver, some (.map (delK kvs h) (delB st h))) = σ') :
    OpSpec cx n fr σ o (.tup []) σ' := by
  subst hσ'
  refine OpSpec.map h (C := [ver = ver, findK (ev cx fr key) kvs 0 = some h]) ?_ ⟨rfl, by rw [hkey]; exact hf, trivial⟩
  rw [ho, mapA]
  simp only [ht, hk, hm, hσ, hkey]
theorem OpSpec.makeG {o : Oper} {t : TypeId} (hal : Alive σ) (ho : o.op = .makeMap t none) : OpSpec cx n fr σ o (.map σ.length 0) (σ ++ [(0, some (.map [] none))]) := by
  have h1 : OpSpec cx n fr σ o (.map σ.length 0) (σ ++ [(0, some (.map [] (some ([], 0))))]) := by
    refine OpSpec.mapN (C := []) ?_ trivial
    rw [ho, Ab.mapN]
    simp only [hal.alloc]
  intro r a w hi hf
  obtain ⟨r', w', v', q1, q2, q3, q4⟩ := h1 r a w hi hf
  obtain ⟨p1, p2⟩ := q3.recast (id := σ.length) (cur := 0) (x := .map [] (some ([], 0))) (y := .map [] none) (by simp) (fun b' o hb' => by
    obtain ⟨rfl, es, clock, h1, h2⟩ := hb'
    exact ⟨rfl, es, clock, h1, MapIs.noB h2⟩) (fun ro hro => by cases hro)
  have e : (σ ++ [((0, some (.map [] (some ([], 0)))) : Nat × Option Box)]).set σ.length (0, some (.map [] none)) = σ ++ [(0, some (.map [] none))] := by
    rw [List.set_append_right _ _ (Nat.le_refl _), Nat.sub_self]; rfl
  rw [e] at p1 p2
  exact ⟨r', w', v', q1, q2, p1, q4.trans p2⟩
end
end Go.Ab
end
section
set_option linter.unusedVariables false
set_option linter.unusedSimpArgs false
namespace Go.Ab
open Go
section
variable {cx : Cx} {n : Nat} {fr : Fr} {σ : Heap}
theorem OpSpec.entryNew {o : Oper} {t kt et : TypeId} {m key : Operand} {id ver c : Nat} {bs : List Nat} {kvs : List (AV × AV)} {z a : AV} (ho : o.op = .mapEntry t m key) (ht : cx.P.underlying t = some (.map kt et)) (hk : keyFits cx.P kt a = true)
    (hm : ev cx fr m = .map id ver) (hkey : ev cx fr key = a) (hσ : σ[id]? = some (ver, some (.map kvs (some (bs, c))))) (hz : zeroV cx.P et = some z) (hf0 : findK a kvs 0 = some none) {σ' : Heap} (hσ' : σ.set id (ver, some (.map (kvs ++ [(a, z)]) (some (bs ++ [c], c + 1)))) = σ') :
    OpSpec cx n fr σ o (.tup [z, .int .i64 (c : Nat)]) σ' := by
  subst hσ'
  intro r ac w hi hf
  have he : ∀ x, VRel r w (ac.eval x) (ev cx fr x) := fun x => ev_rel hi hf x
  have hmv := he m
  have hkv := he key
  rw [hm] at hmv
  rw [hkey] at hkv
  obtain ⟨b, es, clock, hzz, hρ, hb, hmi⟩ := hi.mapAt hσ hmv
  obtain ⟨dst, op, ty, pos, after, guard⟩ := o
  simp only at ho
  subst ho
  obtain ⟨hck, hfk⟩ := findKey_run hk hkv hmi hf0
  obtain ⟨hbs, hcl⟩ := hmi.2.2.2.2 _ _ rfl
  have tup2 : ∀ {r' : Rl} {w' : World} {x y : Value} {p q : AV}, VRel r' w' x p → VRel r' w' y q → VRel r' w' (.tuple #[x, y]) (.tup [p, q]) := fun h1 h2 => .tup rfl (fun i hi => by
    simp only [List.length_cons, List.length_nil] at hi
    rcases i with _ | _ | i
    · exact h1
    · exact h2
    · omega)
  rcases hfk with ⟨_, h2⟩ | ⟨j, v, e, h1, _⟩
  case inr => cases h1
  obtain ⟨z', hz1, hz2⟩ := zeroV_run hz r w
  have hm' := hmi.pushK hkv hz2
  have hk' : setK kvs a z none = kvs ++ [(a, z)] := rfl
  have hst : setB (some (bs, c)) none = some (bs ++ [c], c + 1) := rfl
  rw [hk', hst] at hm'
  obtain ⟨r', k1, k2⟩ := hi.mapSet hσ hρ hb hm'
  refine ⟨r', _, .tuple #[z', goInt clock], .inl ?_, tup2 ?_ ?_, k1, k2⟩
  · simp [execOp, Instr.mapEntry, run_underlying ht, hzz, MapKept.run_getObj_map hb, hck, h2, hz1, MapKept.run_setObj_map _ hb]
  · exact hz2.mono (k2.grow hi)
  · rw [hcl]; exact .int
theorem OpSpec.entryLast {o : Oper} {t : TypeId} {m st x : Operand} {id ver c c' : Nat} {bs : List Nat} {kvs : List (AV × AV)} {a z v : AV} (ho : o.op = .entryStore t m st x)
    (hm : ev cx fr m = .map id ver) (hst : ev cx fr st = .int .i64 (c : Nat)) (hx : ev cx fr x = v) (hσ : σ[id]? = some (ver, some (.map (kvs ++ [(a, z)]) (some (bs ++ [c], c'))))) (hl : bs.length = kvs.length) (hlt : ∀ x ∈ bs, x < c)
    {σ' : Heap} (hσ' : σ.set id (ver, some (.map (kvs ++ [(a, v)]) (some (bs ++ [c], c')))) = σ') : OpSpec cx n fr σ o (.tup []) σ' := by
  subst hσ'
  intro r ac w hi hf
  have he : ∀ x, VRel r w (ac.eval x) (ev cx fr x) := fun x => ev_rel hi hf x
  have hmv := he m
  have hsv := he st
  have hxv := he x
  rw [hm] at hmv
  rw [hst] at hsv
  rw [hx] at hxv
  obtain ⟨b, es, clock, hzz, hρ, hb, hmi⟩ := hi.mapAt hσ hmv
  obtain ⟨dst, op, ty, pos, after, guard⟩ := o
  simp only at ho
  subst ho
  obtain ⟨hbs, hcl⟩ := hmi.2.2.2.2 _ _ rfl
  have hsz : es.size = kvs.length + 1 := by rw [hmi.1]; simp
  obtain ⟨e, m1, m2, m3⟩ := hmi.2.1 kvs.length (by simp)
  have hgb : ∀ (i : Nat) (e : MapEntry), es[i]? = some e → (bs ++ [c])[i]? = some e.born := fun i e h => by
    rw [← hbs, List.getElem?_map, Array.getElem?_toList, h]; rfl
  have hfi : es.findIdx? (fun e => (e.born : Int) == (c : Int)) = some kvs.length := by
    rw [Array.findIdx?_eq_some_iff_getElem]
    have hjs : kvs.length < es.size := by omega
    refine ⟨hjs, ?_, fun i hi' => ?_⟩
    · have h8 := hgb _ _ (Array.getElem?_eq_getElem hjs)
      have h9 : (bs ++ [c])[kvs.length]? = some c := by rw [← hl]; simp
      rw [h9] at h8
      rw [← Option.some.inj h8]; simp
    · have hie : i < es.size := by omega
      have := hgb _ _ (Array.getElem?_eq_getElem hie)
      rw [List.getElem?_append_left (by omega)] at this
      have := hlt _ (List.mem_of_getElem? this)
      simp; omega
  have hset : setK (kvs ++ [(a, z)]) a v (some (kvs.length, v)) = kvs ++ [(a, v)] := by
    show (kvs ++ [(a, z)]).set kvs.length (a, v) = _
    rw [List.set_append_right _ _ (Nat.le_refl _), Nat.sub_self]; rfl
  have hkey : VRel r w e.key a := by
    have : (kvs ++ [(a, z)])[kvs.length]'(by simp) = (a, z) := by simp
    rw [this] at m2; exact m2
  have hm' := hmi.setK hkey hxv (j := kvs.length) (v := v) (by simp)
  rw [hset] at hm'
  have e2 : (es.modify kvs.length fun e' => { e' with key := e.key, val := ac.eval x }) = es.modify kvs.length fun e => { e with val := ac.eval x } := by
    apply Array.ext_getElem?
    intro i
    rw [Array.getElem?_modify, Array.getElem?_modify]
    split
    · rename_i hii
      rw [← hii, m1]; rfl
    · rfl
  rw [e2] at hm'
  obtain ⟨r', k1, k2⟩ := hi.mapSet hσ hρ hb hm'
  refine ⟨r', _, undef, .inr ⟨?_, rfl⟩, .tup rfl (fun i h => absurd h (by simp)), k1, k2⟩
  have hsi : ac.eval st = .int .i64 (c : Int) := by
    generalize ac.eval st = y at hsv
    cases hsv; rfl
  simp [execOp, Instr.entryStore, hzz, hsi, asInt, asIntOf, MapKept.run_getObj_map hb, hfi, MapKept.run_setObj_map _ hb]
end
end Go.Ab
end
section
set_option linter.unusedVariables false
set_option linter.unusedSimpArgs false
namespace Go.Ab
open Go
section
variable {cx : Cx} {n : Nat} {B : Bs} {k : List AI} {Q : Post} {fr : Fr} {σ : Heap}
theorem resCell {a t id cur off : Nat} {cs : List AV} {g : Tag} {v : AV} (hf : fr.get a = .ptr id cur off) (hσ : σ[id]? = some (cur, some (.cells cs g))) (hl : aLoad cx.P t (cs.drop off) = some v) : resOne cx fr σ (.cell a t) = some ([cur = cur], v) := by
  simp only [resOne, hf, boxAt, hσ, hl]
theorem ret_c2 {fn : Func} {R : Out → Heap → Prop} {a t id cur off u : Nat} {cs : List AV} {g : Tag} {v x : AV} (hr : fn.results.toList = [.cell a t, .tmp u]) (hf : fr.get a = .ptr id cur off) (hσ : σ[id]? = some (cur, some (.cells cs g))) (hl : aLoad cx.P t (cs.drop off) = some v) (hx : fr.get u = x) (hR : R (.ret (.tup [v, x])) σ) : retQ cx fn R .ret fr σ := by
  refine ⟨[cur = cur], [v, x], ?_, ⟨rfl, trivial⟩, hR⟩
  subst hx
  rw [hr, resAll, resCell hf hσ hl]
  rfl
end
end Go.Ab
end
section
set_option linter.unusedVariables false
set_option linter.unusedSimpArgs false
namespace Go.Ab
open Go
def rpLoad (cx : Cx) (fr : Fr) : Op → Bool
  | .load _ a => match ev cx fr a with
    | .rp .. => true
    | _ => false
  | _ => false
def mapLen (cx : Cx) (fr : Fr) : Op → Bool
  | .call { callee := .builtin .len, args := args, .. } => match args.toList with
    | [x] => match ev cx fr x with
      | .map .. => true
      | _ => false
    | _ => false
  | _ => false
def oneZ {α : Type} (cx : Cx) (K : List Nat) (n : Nat) (all : Array Oper) (s : Heap) (o : Oper) (fr : Fr) (rs : List AV) (c : List Prop → AV → List AV → Option α) : Option α :=
  match dstOk n o.dst with
  | false => none
  | true => match guardA all o K fr with
    | none => none
    | some false => c [] (.tup []) rs
    | some true => match callA cx fr o.op with
      | some (f, args) => match rs with
        | x :: rs => c [∃ args', Calc cx f args' x ∧ Frzs s args args'] x rs
        | [] => none
      | none => match heapOp o.op || stopOp o.op || mapLen cx fr o.op with
        | false => match aOp cx [] o.dst o.op fr s with
          | some (C, v, s') => forceV v fun v => c ((s' = s) :: C) v rs
          | none => none
        | true => match rs with
          | [] => none
          | x :: rs => match rpLoad cx fr o.op with
            | true => match loadA cx fr s o.op x with
              | some D => c D x rs
              | none => none
            | false => match idxA cx fr s o.op x with
              | some (D, v) => forceV v fun v => c D v rs
              | none => c [OpSpec cx n fr s o x s] x rs
theorem oneZ_spec {α : Type} {cx : Cx} {n : Nat} {K : List Nat} {all : Array Oper} {s : Heap} {o : Oper} {fr : Fr} {rs : List AV} {c : List Prop → AV → List AV → Option α} {a : α} (h : oneZ cx K n all s o fr rs c = some a) :
    ∃ C v rs', c C v rs' = some a ∧ (AllP C → StepX cx n all s s K fr o v) := by
  unfold oneZ at h
  split at h
  · cases h
  rename_i hd
  split at h
  · cases h
  · rename_i hg
    exact ⟨_, _, _, h, fun _ => ⟨hd, .inl ⟨hg, rfl, rfl⟩⟩⟩
  rename_i hg
  split at h
  · rename_i f args hc
    split at h
    · rename_i x rs'
      refine ⟨_, _, _, h, fun hC => ?_⟩
      obtain ⟨⟨args', h1, h2⟩, _⟩ := hC
      have : oneD cx K n all s o fr [x] = some ([∃ args', Calc cx f args' x ∧ Frzs s args args'], x, []) := by
        unfold oneD
        rw [hd]
        simp only [hg, hc]
      exact (oneD_spec this ⟨⟨args', h1, h2⟩, trivial⟩).x
    · cases h
  · split at h
    · split at h
      · rename_i C v s' ha
        rw [forceV_eq] at h
        refine ⟨_, _, _, h, fun hC => ?_⟩
        obtain ⟨e, hC⟩ := hC
        subst e
        exact opC_step hd hg ha hC
      · cases h
    · split at h
      · cases h
      · rename_i x rs'
        split at h
        · split at h
          · rename_i D hl
            exact ⟨_, _, _, h, fun hC => specC_step hd hg fun r a w hi hf => loadA_run hi hf hl hC⟩
          · cases h
        · split at h
          · rename_i D v hx
            rw [forceV_eq] at h
            exact ⟨_, _, _, h, fun hC => specC_step hd hg fun r a w hi hf => idxA_run hi hf hx hC⟩
          · exact ⟨_, _, _, h, fun hC => specC_step hd hg hC.1⟩
def appK {α : Type} : List Prop → List Prop → (List Prop → α) → α
  | [], D, c => c D
  | x :: r, D, c => appK r D fun l => c (x :: l)
theorem appK_eq {α : Type} : ∀ (C D : List Prop) (c : List Prop → α), appK C D c = c (C ++ D)
  | [], D, c => rfl
  | x :: r, D, c => by rw [appK, appK_eq r]; rfl
def oneX {α : Type} (cx : Cx) (K : List Nat) (n : Nat) (all : Array Oper) (s : Heap) (o : Oper) (fr : Fr) (rs : List AV) (b : Bool) (c : List Prop → AV → List AV → Option α) : Option α :=
  oneZ cx K n all s o fr rs fun C v rs => match b with
    | true => c [] v rs
    | false => c C v rs
theorem oneX_spec {α : Type} {cx : Cx} {n : Nat} {K : List Nat} {all : Array Oper} {s : Heap} {o : Oper} {fr : Fr} {rs : List AV} {b : Bool} {c : List Prop → AV → List AV → Option α} {a : α} (h : oneX cx K n all s o fr rs b c = some a) :
    ∃ C v rs', c C v rs' = some a ∧ (b = false → AllP C → StepX cx n all s s K fr o v) := by
  obtain ⟨C, v, rs', h1, h2⟩ := oneZ_spec h
  cases b with
  | true => exact ⟨_, _, _, h1, fun h => by cases h⟩
  | false => exact ⟨_, _, _, h1, fun _ => h2⟩
def runZ {α : Type} (cx : Cx) (K : List Nat) (n : Nat) (all : Array Oper) (ops : List Oper) (s : Heap) (J X : List Nat) : List Oper → Nat → Fr → List AV → (List Prop → List AV → Fr → Option α) → Option α
  | [], i, fr, rs, c => c [] [] fr
  | o :: l, i, fr, rs, c => match memN i J with
    | true => match rs with
      | x :: rs => runZ cx K n all ops s J X l (i + 1) (setA o.dst x fr) rs fun D vs fr' => c D (x :: vs) fr'
      | [] => none
    | false => oneX cx K n all s o (restr ops o fr) rs (memN i X) fun C v rs => match isGuard ops i with
      | false => runZ cx K n all ops s J X l (i + 1) (setA o.dst v fr) rs fun D vs fr' => appK C D fun D => c D (v :: vs) fr'
      | true => match v with
        | .bool b => match rs with
          | .bool t :: rs => runZ cx K n all ops s J X l (i + 1) (setA o.dst (.bool t) fr) rs fun D vs fr' => appK C ((b = t) :: D) fun D => c D (.bool t :: vs) fr'
          | _ => none
        | .tup us => runZ cx K n all ops s J X l (i + 1) (setA o.dst (.tup us) fr) rs fun D vs fr' => appK C D fun D => c D (.tup us :: vs) fr'
        | _ => none
theorem runZ_spec {α : Type} {cx : Cx} {n : Nat} {K : List Nat} {all : Array Oper} {ops : List Oper} {s : Heap} {J X : List Nat} {a : α} : ∀ (l : List Oper) (i : Nat) (fr : Fr) (rs : List AV) (c : List Prop → List AV → Fr → Option α), runZ cx K n all ops s J X l i fr rs c = some a →
    ∃ C vals fr', c C vals fr' = some a ∧ vals.length = l.length ∧ fr' = ovl l vals fr ∧ (AllP C → ∀ (j : Nat) (o : Oper) (v : AV), l[j]? = some o → vals[j]? = some v → i + j ∉ J → i + j ∉ X → StepX cx n all s s K (restr ops o (ovl (l.take j) (vals.take j) fr)) o v)
  | [], i, fr, rs, c, h => ⟨_, _, _, h, rfl, rfl, fun _ j o v h => by simp at h⟩
  | o :: l, i, fr, rs, c, h => by
    unfold runZ at h
    split at h
    · rename_i hb
      have hij : i ∈ J := memN_iff.1 hb
      split at h
      · rename_i x rs'
        obtain ⟨D, vs, fr', h1, h2, h3, h4⟩ := runZ_spec l _ _ _ _ h
        refine ⟨_, _, _, h1, by simp [h2], by rw [h3]; rfl, fun hD j oj vj hj hvj hne hnx => ?_⟩
        cases j with
        | zero => exact absurd hij hne
        | succ j =>
          simp only [List.getElem?_cons_succ] at hj hvj
          exact h4 hD j oj vj hj hvj (by rw [show i + 1 + j = i + (j + 1) by omega]; exact hne) (by rw [show i + 1 + j = i + (j + 1) by omega]; exact hnx)
      · cases h
    · obtain ⟨C, v, rs', h1, h2⟩ := oneX_spec h
      have h2 : i ∉ X → AllP C → StepX cx n all s s K (restr ops o fr) o v := fun hnx => h2 (by
        cases hb : memN i X with
        | false => rfl
        | true => exact absurd (memN_iff.1 hb) hnx)
      split at h1
      · obtain ⟨D, vs, fr', k1, k2, k3, k4⟩ := runZ_spec l _ _ _ _ h1
        rw [appK_eq] at k1
        refine ⟨_, _, _, k1, by simp [k2], by rw [k3]; rfl, fun hD j oj vj hj hvj hne hnx => ?_⟩
        obtain ⟨hC, hD⟩ := AllP_append hD
        cases j with
        | zero =>
          simp only [List.getElem?_cons_zero, Option.some.injEq] at hj hvj
          subst hj; subst hvj
          exact h2 hnx hC
        | succ j =>
          simp only [List.getElem?_cons_succ] at hj hvj
          exact k4 hD j oj vj hj hvj (by rw [show i + 1 + j = i + (j + 1) by omega]; exact hne) (by rw [show i + 1 + j = i + (j + 1) by omega]; exact hnx)
      · split at h1
        · rename_i b
          split at h1
          · rename_i t rs''
            obtain ⟨D, vs, fr', k1, k2, k3, k4⟩ := runZ_spec l _ _ _ _ h1
            rw [appK_eq] at k1
            refine ⟨_, _, _, k1, by simp [k2], by rw [k3]; rfl, fun hD j oj vj hj hvj hne hnx => ?_⟩
            obtain ⟨hC, hb, hD2⟩ := AllP_append hD
            subst hb
            cases j with
            | zero =>
              simp only [List.getElem?_cons_zero, Option.some.injEq] at hj hvj
              subst hj; subst hvj
              exact h2 hnx hC
            | succ j =>
              simp only [List.getElem?_cons_succ] at hj hvj
              exact k4 hD2 j oj vj hj hvj (by rw [show i + 1 + j = i + (j + 1) by omega]; exact hne) (by rw [show i + 1 + j = i + (j + 1) by omega]; exact hnx)
          · cases h1
        · rename_i us
          obtain ⟨D, vs, fr', k1, k2, k3, k4⟩ := runZ_spec l _ _ _ _ h1
          rw [appK_eq] at k1
          refine ⟨_, _, _, k1, by simp [k2], by rw [k3]; rfl, fun hD j oj vj hj hvj hne hnx => ?_⟩
          obtain ⟨hC, hD⟩ := AllP_append hD
          cases j with
          | zero =>
            simp only [List.getElem?_cons_zero, Option.some.injEq] at hj hvj
            subst hj; subst hvj
            exact h2 hnx hC
          | succ j =>
            simp only [List.getElem?_cons_succ] at hj hvj
            exact k4 hD j oj vj hj hvj (by rw [show i + 1 + j = i + (j + 1) by omega]; exact hne) (by rw [show i + 1 + j = i + (j + 1) by omega]; exact hnx)
        · cases h1
section
variable {cx : Cx} {n : Nat} {B : Bs} {k : List AI} {Q : Post} {fr : Fr} {σ : Heap}
theorem StepX.d {K : List Nat} {all : Array Oper} {o : Oper} {v : AV} (h : StepX cx n all σ σ K fr o v) : StepD cx n all σ K fr o v := by
  refine ⟨h.1, ?_⟩
  rcases h.2 with ⟨h1, h2, _⟩ | h1
  · exact .inl ⟨h1, h2⟩
  · exact .inr h1
theorem S_drawO {id : Nat} {ops : Array Oper} (m : Nat) (rs : List AV) {C : List Prop} {vals : List AV} {fr' : Fr} (hP : cx.P.follows .mixedOrders = true) (hchk : drawOk ops.toList m = true) (hmN : Nat.ble m ops.size = true)
    (hrun : runZ cx (guardKs ops.toList ops.toList) n ops ops.toList σ [] [] (ops.toList.take m) 0 fr rs (fun C vs f => some (C, vs, f)) = some (C, vals, fr')) (hC : AllP C)
    (hk : S cx n B (.ops ops (ops.toList.drop m) [] :: k) Q fr' σ) : S cx n B (.code (.region id ops true) :: k) Q fr σ := by
  intro r a w hi hf hd hx
  obtain ⟨c1, c2, c3, c4, c5⟩ := drawOk_spec hchk
  obtain ⟨C', vals', fr'', e, k1, k2, k3⟩ := runZ_spec _ _ _ _ _ hrun
  simp only [Option.some.injEq, Prod.mk.injEq] at e
  obtain ⟨rfl, rfl, rfl⟩ := e
  have k3 := k3 hC
  have hmN' := Nat.le_of_ble_eq_true hmN
  have hlen : vals'.length = m := by rw [k1, List.length_take, Array.length_toList]; omega
  obtain ⟨hi1, hx1⟩ := hi.heap_eq (w' := { w with drawn := w.drawn + 1 }) rfl rfl rfl rfl
  have hf1 := hf.mono (hx1.grow hi)
  have nl : ∀ {j : Nat}, ¬ Listed (Array.replicate ops.size false) j := by
    intro j hj
    unfold Listed at hj
    rw [Array.getD_eq_getD_getElem?, Array.getElem?_replicate] at hj
    split at hj <;> simp at hj
  refine wp_region_any hP ?_
  refine wpAny_front (cx := cx) (n := n) (B := B) (fr := fr) (σ := σ) (m := m) (vals := vals') (K := guardKs ops.toList ops.toList) hmN' hlen c1 c2 c3 c4 c5 (fun j o v hj ho hv => ?_) (fun r a w hi hf hd hx => ?_) ops.size _ r a _ (by simp) ?_ (fun j i hj => ?_) (fun j _ => ?_) ⟨hf1.size, fun j d v _ hj => ?_, fun t _ => hf1.get t, hf1.defs⟩ hi1 hd (hx.trans hx1)
  · have := k3 j o v (by rw [List.getElem?_take_of_lt hj]; exact ho) hv (List.not_mem_nil) (List.not_mem_nil)
    rw [List.take_take, Nat.min_eq_left (by omega)] at this
    exact this.d
  · rw [k2] at hk
    exact hk r a w hi hf hd hx
  · unfold unl; simp [List.countP_replicate]
  · exact absurd hj nl
  · exact nl
  · exact absurd hj nl
theorem S_drawOC {id : Nat} {ops : Array Oper} (σ2 : Heap) (jc m : Nat) (rs : List AV) {C : Heap → List Prop} {vals : List AV} {fr' : Fr} (hP : cx.P.follows .mixedOrders = true) (hchk : drawOk ops.toList m = true) (hmN : Nat.ble m ops.size = true) (hjc : Nat.blt jc m = true)
    (hrun : ∀ s, runZ cx (guardKs ops.toList ops.toList) n ops ops.toList s [jc] [] (ops.toList.take m) 0 fr rs (fun C vs f => some (C, vs, f)) = some (C s, vals, fr')) (hC : ∀ s, s = σ ∨ s = σ2 → AllP (C s))
    (hj : ∀ o v, ops.toList[jc]? = some o → vals[jc]? = some v → StepX cx n ops σ σ2 (guardKs ops.toList ops.toList) (restr ops.toList o (ovl (ops.toList.take jc) (vals.take jc) fr)) o v)
    (hk : S cx n B (.ops ops (ops.toList.drop m) [] :: k) Q fr' σ2) : S cx n B (.code (.region id ops true) :: k) Q fr σ := by
  intro r a w hi hf hd hx
  obtain ⟨c1, c2, c3, c4, c5⟩ := drawOk_spec hchk
  have key : ∀ s, s = σ ∨ s = σ2 → vals.length = (ops.toList.take m).length ∧ fr' = ovl (ops.toList.take m) vals fr ∧ ∀ (j : Nat) (o : Oper) (v : AV), (ops.toList.take m)[j]? = some o → vals[j]? = some v → 0 + j ∉ [jc] → StepX cx n ops s s (guardKs ops.toList ops.toList) (restr ops.toList o (ovl ((ops.toList.take m).take j) (vals.take j) fr)) o v := fun s hs => by
    obtain ⟨C', vals', fr'', e, k1, k2, k3⟩ := runZ_spec _ _ _ _ _ (hrun s)
    simp only [Option.some.injEq, Prod.mk.injEq] at e
    obtain ⟨rfl, rfl, rfl⟩ := e
    exact ⟨k1, k2, fun j o v a b c => k3 (hC s hs) j o v a b c List.not_mem_nil⟩
  obtain ⟨k1, k2, _⟩ := key σ (.inl rfl)
  have hmN' := Nat.le_of_ble_eq_true hmN
  have hjlt := blt_lt hjc
  have hlen : vals.length = m := by rw [k1, List.length_take, Array.length_toList]; omega
  obtain ⟨hi1, hx1⟩ := hi.heap_eq (w' := { w with drawn := w.drawn + 1 }) rfl rfl rfl rfl
  have hf1 := hf.mono (hx1.grow hi)
  have nl : ∀ {j : Nat}, ¬ Listed (Array.replicate ops.size false) j := by
    intro j hj
    unfold Listed at hj
    rw [Array.getD_eq_getD_getElem?, Array.getElem?_replicate] at hj
    split at hj <;> simp at hj
  have h0 : hpC σ σ2 jc (Array.replicate ops.size false) = σ := hpC_out (by
    cases hb : (Array.replicate ops.size false).getD jc false with
    | false => rfl
    | true => exact absurd hb nl)
  refine wp_region_any hP ?_
  refine wpAny_frontC (σ' := σ2) (jc := jc) (cx := cx) (n := n) (B := B) (fr := fr) (σ := σ) (m := m) (vals := vals) (K := guardKs ops.toList ops.toList) hjlt hmN' hlen c1 c2 c3 c4 c5 (fun j o v hjm ho hv => ?_) (fun r a w hi hf hd hx => ?_) ops.size _ r a _ (by simp) ?_ (fun j i hj => ?_) (fun j _ => ?_) ⟨hf1.size, fun j d v _ hj => ?_, fun t _ => hf1.get t, hf1.defs⟩ (by rw [h0]; exact hi1) hd (by rw [h0]; exact hx.trans hx1)
  · refine ⟨fun hne b => ?_, fun e => by subst e; exact hj o v ho hv⟩
    have h := fun s hs => (key s hs).2.2 j o v (by rw [List.getElem?_take_of_lt hjm]; exact ho) hv (by rw [Nat.zero_add, List.mem_singleton]; exact hne)
    rw [List.take_take, Nat.min_eq_left (by omega)] at h
    cases b with
    | true => exact h σ2 (.inr rfl)
    | false => exact h σ (.inl rfl)
  · rw [k2] at hk
    exact hk r a w hi hf hd hx
  · unfold unl; simp [List.countP_replicate]
  · exact absurd hj nl
  · exact nl
  · exact absurd hj nl
def hpL : Heap → List (Nat × Heap) → Array Bool → Heap
  | σ, [], _ => σ
  | σ, (j, σ') :: r, listed => match listed.getD j false with
    | true => hpL σ' r listed
    | false => σ
def stepsL (P : Heap → Nat → Heap → Prop) : Heap → List (Nat × Heap) → Prop
  | _, [] => True
  | σ, (j, σ') :: r => P σ j σ' ∧ stepsL P σ' r
def edgesL (ops : List Oper) : List Nat → Bool
  | j1 :: j2 :: r => edge ops j2 j1 && Nat.blt j1 j2 && edgesL ops (j2 :: r)
  | _ => true
def heapsL : Heap → List (Nat × Heap) → List Heap
  | σ, c => σ :: c.map Prod.snd
theorem hpL_none : ∀ (σ : Heap) (c : List (Nat × Heap)) (listed : Array Bool), (∀ e, c.head? = some e → listed.getD e.1 false = false) → hpL σ c listed = σ
  | σ, [], _, _ => rfl
  | σ, (j, σ') :: r, listed, h => by unfold hpL; rw [h _ rfl]
theorem hpL_keep (listed listed' : Array Bool) : ∀ (σ : Heap) (c : List (Nat × Heap)), (∀ e ∈ c, listed'.getD e.1 false = listed.getD e.1 false) → hpL σ c listed' = hpL σ c listed
  | σ, [], _ => rfl
  | σ, (j, σ') :: r, h => by
    unfold hpL
    rw [h _ (List.mem_cons_self ..), hpL_keep listed listed' σ' r fun e he => h e (List.mem_cons_of_mem _ he)]
theorem hpL_all : ∀ (σ : Heap) (c : List (Nat × Heap)) (listed : Array Bool), (∀ e ∈ c, listed.getD e.1 false = true) → hpL σ c listed = (heapsL σ c).getLast (by simp [heapsL])
  | σ, [], _, _ => rfl
  | σ, (j, σ') :: r, listed, h => by
    unfold hpL
    rw [h _ (List.mem_cons_self ..)]
    simp only
    rw [hpL_all σ' r listed fun e he => h e (List.mem_cons_of_mem _ he)]
    simp [heapsL, List.getLast_cons]
theorem hpL_step {ops : List Oper} {P : Heap → Nat → Heap → Prop} {listed listed' : Array Bool} {j : Nat} (hj : listed.getD j false = false) (hj' : listed'.getD j false = true) (hoth : ∀ i, i ≠ j → listed'.getD i false = listed.getD i false)
    (hdn : ∀ a b, listed.getD a false = true → edge ops a b = true → listed.getD b false = true) (hed : ∀ b, edge ops j b = true → listed.getD b false = true) :
    ∀ (σ : Heap) (c : List (Nat × Heap)), edgesL ops (c.map Prod.fst) = true → stepsL P σ c → j ∈ c.map Prod.fst → P (hpL σ c listed) j (hpL σ c listed')
  | σ, [], _, _, h => by cases h
  | σ, (j1, σ1) :: r, he, hs, hm => by
    by_cases e1 : j = j1
    · subst e1
      have a1 : hpL σ ((j, σ1) :: r) listed = σ := by unfold hpL; rw [hj]
      have a2 : hpL σ ((j, σ1) :: r) listed' = σ1 := by
        unfold hpL; rw [hj']
        simp only
        refine hpL_none σ1 r listed' fun e hhd => ?_
        cases r with
        | nil => cases hhd
        | cons x r' =>
          obtain rfl : x = e := Option.some.inj hhd
          simp only [List.map_cons, edgesL, Bool.and_eq_true] at he
          have hne : x.1 ≠ j := by have := blt_lt he.1.2; omega
          rw [hoth _ hne]
          cases hb : listed.getD x.1 false with
          | false => rfl
          | true => have := hdn _ _ hb he.1.1; rw [hj] at this; cases this
      rw [a1, a2]
      exact hs.1
    · have hm' : j ∈ r.map Prod.fst := by
        rcases List.mem_cons.1 (show j ∈ j1 :: r.map Prod.fst from hm) with h | h
        · exact absurd h e1
        · exact h
      have he' : edgesL ops (r.map Prod.fst) = true := by
        cases r with
        | nil => rfl
        | cons x r' => simp only [List.map_cons, edgesL, Bool.and_eq_true] at he; exact he.2
      have hd1 : ∀ (c : List (Nat × Heap)) (j1 : Nat), edgesL ops (j1 :: c.map Prod.fst) = true → j ∈ c.map Prod.fst → listed.getD j1 false = true := by
        intro c
        induction c with
        | nil => intro j1 _ h; cases h
        | cons x c ih =>
          intro j1 he hm
          simp only [List.map_cons, edgesL, Bool.and_eq_true] at he
          rcases List.mem_cons.1 (show j ∈ x.1 :: c.map Prod.fst from hm) with h | h
          · rw [← h] at he; exact hed _ he.1.1
          · exact hdn _ _ (ih x.1 he.2 h) he.1.1
      have hl1 := hd1 r j1 he hm'
      have a1 : hpL σ ((j1, σ1) :: r) listed = hpL σ1 r listed := by conv => lhs; unfold hpL; rw [hl1]
      have a2 : hpL σ ((j1, σ1) :: r) listed' = hpL σ1 r listed' := by conv => lhs; unfold hpL; rw [hoth _ (Ne.symm e1), hl1]
      rw [a1, a2]
      exact hpL_step hj hj' hoth hdn hed σ1 r he' hs.2 hm'
def exclL (ops : List Oper) (J : List Nat) (m k : Nat) : List Nat := (List.range m).filter fun i => (J.take k).any (fun q => edge ops q i) || (J.drop k).any (fun q => edge ops i q)
def runsL (P : Nat → Heap → Prop) : Nat → List Heap → Prop
  | _, [] => True
  | k, s :: r => P k s ∧ runsL P (k + 1) r
theorem hpL_at {ops : List Oper} {listed : Array Bool} (hdn : ∀ a b, listed.getD a false = true → edge ops a b = true → listed.getD b false = true) : ∀ {P : Nat → Heap → Prop} (k : Nat) (σ : Heap) (c : List (Nat × Heap)), edgesL ops (c.map Prod.fst) = true → runsL P k (heapsL σ c) →
    ∃ q, P (k + q) (hpL σ c listed) ∧ (∀ i ∈ (c.map Prod.fst).take q, listed.getD i false = true) ∧ (∀ i ∈ (c.map Prod.fst).drop q, listed.getD i false = false)
  | P, k, σ, [], _, h => ⟨0, h.1, (fun i hi => by cases hi), (fun i hi => by cases hi)⟩
  | P, k, σ, (j, σ') :: r, he, h => by
    cases hb : listed.getD j false with
    | false =>
      refine ⟨0, ?_, (fun i hi => by simp at hi), fun i hi => ?_⟩
      · unfold hpL; rw [hb]; exact h.1
      · have hall : ∀ (r : List (Nat × Heap)) (j : Nat), edgesL ops (j :: r.map Prod.fst) = true → listed.getD j false = false → ∀ i ∈ j :: r.map Prod.fst, listed.getD i false = false := by
          intro r
          induction r with
          | nil => intro j _ hj i hi; rw [List.mem_singleton.1 hi]; exact hj
          | cons x r ih =>
            intro j he hj i hi
            simp only [List.map_cons, edgesL, Bool.and_eq_true] at he
            rcases List.mem_cons.1 hi with rfl | hi
            · exact hj
            · refine ih x.1 he.2 ?_ i hi
              cases hx : listed.getD x.1 false with
              | false => rfl
              | true => have := hdn _ _ hx he.1.1; rw [hj] at this; cases this
        exact hall r j he hb i hi
    | true =>
      have he' : edgesL ops (r.map Prod.fst) = true := by
        cases r with
        | nil => rfl
        | cons x r' => simp only [List.map_cons, edgesL, Bool.and_eq_true] at he; exact he.2
      obtain ⟨q, h1, h2, h3⟩ := hpL_at hdn (k + 1) σ' r he' h.2
      refine ⟨q + 1, ?_, fun i hi => ?_, fun i hi => h3 i hi⟩
      · have : hpL σ ((j, σ') :: r) listed = hpL σ' r listed := by conv => lhs; unfold hpL; rw [hb]
        rw [this, show k + (q + 1) = k + 1 + q by omega]; exact h1
      · rcases List.mem_cons.1 (show i ∈ j :: (r.map Prod.fst).take q from hi) with rfl | hi
        · exact hb
        · exact h2 i hi
theorem S_drawOL {id : Nat} {ops : Array Oper} (c : List (Nat × Heap)) (σ2 : Heap) (m : Nat) (rs : List AV) (vals : List AV) (fr' : Fr) (hP : cx.P.follows .mixedOrders = true) (hchk : drawOk ops.toList m = true) (hmN : Nat.ble m ops.size = true) (hjm : c.all (fun e => Nat.blt e.1 m) = true) (hed : edgesL ops.toList (c.map Prod.fst) = true) (hds : (ops.toList.take m).all (fun o => dstOk n o.dst) = true)
    (hrun : runsL (fun k s => ∃ C, runZ cx (guardKs ops.toList ops.toList) n ops ops.toList s (c.map Prod.fst) (exclL ops.toList (c.map Prod.fst) m k) (ops.toList.take m) 0 fr rs (fun C vs f => some (C, vs, f)) = some (C, vals, fr') ∧ AllP C) 0 (heapsL σ c))
    (hs : stepsL (fun a j b => ∀ o v, ops.toList[j]? = some o → vals[j]? = some v → StepX cx n ops a b (guardKs ops.toList ops.toList) (restr ops.toList o (ovl (ops.toList.take j) (vals.take j) fr)) o v) σ c)
    (hl : (heapsL σ c).getLast (by simp [heapsL]) = σ2) (hk : S cx n B (.ops ops (ops.toList.drop m) [] :: k) Q fr' σ2) : S cx n B (.code (.region id ops true) :: k) Q fr σ := by
  intro r a w hi hf hd hx
  obtain ⟨c1, c2, c3, c4, c5⟩ := drawOk_spec hchk
  obtain ⟨k1, k2⟩ : vals.length = (ops.toList.take m).length ∧ fr' = ovl (ops.toList.take m) vals fr := by
    obtain ⟨⟨C, h1, _⟩, _⟩ := hrun
    obtain ⟨C', vals', fr'', e, k1, k2, k3⟩ := runZ_spec _ _ _ _ _ h1
    simp only [Option.some.injEq, Prod.mk.injEq] at e
    obtain ⟨rfl, rfl, rfl⟩ := e
    exact ⟨k1, k2⟩
  have hmN' := Nat.le_of_ble_eq_true hmN
  have hlen : vals.length = m := by rw [k1, List.length_take, Array.length_toList]; omega
  obtain ⟨hi1, hx1⟩ := hi.heap_eq (w' := { w with drawn := w.drawn + 1 }) rfl rfl rfl rfl
  have hf1 := hf.mono (hx1.grow hi)
  have nl : ∀ {j : Nat}, ¬ Listed (Array.replicate ops.size false) j := by
    intro j hj
    unfold Listed at hj
    rw [Array.getD_eq_getD_getElem?, Array.getElem?_replicate] at hj
    split at hj <;> simp at hj
  have nlF : ∀ {j : Nat}, (Array.replicate ops.size false).getD j false = false := by
    intro j
    cases hb : (Array.replicate ops.size false).getD j false with
    | false => rfl
    | true => exact absurd hb nl
  have h0 : hpL σ c (Array.replicate ops.size false) = σ := hpL_none _ _ _ fun e _ => nlF
  have hgs : ∀ (listed : Array Bool) (i j : Nat), i < listed.size → (listed.setIfInBounds i true).getD j false = if j = i then true else listed.getD j false := by
    intro listed i j hil
    simp only [Array.getD_eq_getD_getElem?, Array.getElem?_setIfInBounds]
    by_cases h : i = j
    · subst h; simp [hil]
    · rw [if_neg h, if_neg (Ne.symm h)]
  have hstep : ∀ (j : Nat) o v, j < m → ops.toList[j]? = some o → vals[j]? = some v → ∀ listed : Array Bool, listed.size = ops.size → ¬ Listed listed j → (∀ i, edge ops.toList j i = true → Listed listed i) → Down ops.toList listed → StepX cx n ops (hpL σ c listed) (hpL σ c (listed.setIfInBounds j true)) (guardKs ops.toList ops.toList) (restr ops.toList o (ovl (ops.toList.take j) (vals.take j) fr)) o v := by
    intro j o v hjm ho hv listed hsz hnl hed' hdn
    have hnlF : listed.getD j false = false := by
      cases hb : listed.getD j false with
      | false => rfl
      | true => exact absurd hb hnl
    by_cases hin : j ∈ c.map Prod.fst
    · exact hpL_step (listed' := listed.setIfInBounds j true) hnlF (by rw [hgs _ _ _ (by omega), if_pos rfl]) (fun i hne => by rw [hgs _ _ _ (by omega), if_neg hne]) (fun a b ha hab => hdn a b ha hab) (fun b hb => hed' b hb) σ c hed hs hin o v ho hv
    · rw [hpL_keep listed (listed.setIfInBounds j true) σ c fun e he => by rw [hgs _ _ _ (by omega), if_neg (fun h => hin (by rw [← h]; exact List.mem_map_of_mem he))]]
      obtain ⟨q, ⟨C, h1, hC⟩, hq1, hq2⟩ := hpL_at (listed := listed) (fun a b ha hab => hdn a b ha hab) 0 σ c hed hrun
      rw [Nat.zero_add] at h1
      obtain ⟨C', vals', fr'', e, _, _, k3⟩ := runZ_spec _ _ _ _ _ h1
      simp only [Option.some.injEq, Prod.mk.injEq] at e
      obtain ⟨rfl, rfl, rfl⟩ := e
      have h := k3 hC j o v (by rw [List.getElem?_take_of_lt hjm]; exact ho) hv (by rw [Nat.zero_add]; exact hin) (by
        rw [Nat.zero_add]
        intro hx
        obtain ⟨_, hx⟩ := List.mem_filter.1 hx
        rcases (Bool.or_eq_true _ _).mp hx with hx | hx
        · obtain ⟨p, hp1, hp2⟩ := List.any_eq_true.1 hx
          have := hdn p j (hq1 p hp1) hp2
          exact hnl this
        · obtain ⟨p, hp1, hp2⟩ := List.any_eq_true.1 hx
          have h5 : listed.getD p false = true := hed' p hp2
          rw [hq2 p hp1] at h5
          cases h5)
      rw [List.take_take, Nat.min_eq_left (by omega)] at h
      exact h
  refine wp_region_any hP ?_
  refine wpAny_frontG (σ' := σ2) (hp := hpL σ c) (cx := cx) (n := n) (B := B) (fr := fr) (m := m) (vals := vals) (K := guardKs ops.toList ops.toList) hmN' hlen c1 c2 c3 c4 c5 (fun listed hall => ?_) (fun j o hjm ho => ?_) hstep (fun r a w hi hf hd hx => ?_) ops.size _ r a _ (by simp) ?_ (fun j i hj => ?_) (fun j _ => ?_) ⟨hf1.size, fun j d v _ hj => ?_, fun t _ => hf1.get t, hf1.defs⟩ (by rw [h0]; exact hi1) hd (by rw [h0]; exact hx.trans hx1)
  · rw [hpL_all σ c listed fun e he => hall e.1 (blt_lt (List.all_eq_true.1 hjm e he))]
    exact hl
  · exact List.all_eq_true.1 hds o (List.mem_of_getElem? (by rw [List.getElem?_take_of_lt hjm]; exact ho))
  · rw [k2] at hk
    exact hk r a w hi hf hd hx
  · unfold unl; simp [List.countP_replicate]
  · exact absurd hj nl
  · exact nl
  · exact absurd hj nl
end
end Go.Ab
end
section
set_option linter.unusedVariables false
set_option linter.unusedSimpArgs false
namespace Go.Ab
open Go
section
variable {cx : Cx} {n : Nat} {B : Bs} {k : List AI} {Q : Post} {fr : Fr} {σ : Heap}
theorem OpSpec.storeX {o : Oper} {t : TypeId} {a x : Operand} {m id ver off : Nat} {cs : List AV} {gT : Option TypeId} {y : AV} {σ' : Heap} (ho : o.op = .store t a x) (hm : szOf cx.P t = some m) (hea : ev cx fr a = .eptr id ver off) (hx : ev cx fr x = y) (hyc : y.cells.length = m) (hy : allOne y.cells = true)
    (hσ : σ[id]? = some (ver, some (.cells cs ⟨false, gT⟩))) (hoff : off + m ≤ cs.length) (hσ' : σ' = σ.set id (ver, some (.cells (setRange cs off y.cells) ⟨false, gT⟩))) : OpSpec cx n fr σ o (.tup []) σ' := by
  subst hσ'
  refine OpSpec.store (C := [y.cells.length = m, allOne y.cells = true, ver = ver, off + m ≤ cs.length]) ?_ ⟨hyc, hy, rfl, hoff, trivial⟩
  rw [ho]
  simp only [storeA, hm, hea, hσ, hx]
structure DelC (σ : Heap) (id ver i n : Nat) (cs : List AV) (sz : Nat) (id' ver' : Nat) (fl : Bool) (τ : Heap) : Prop where
  h : (i + 1 < n ∧ id' = σ.length ∧ ver' = 0 ∧ fl = false ∧ τ = [(0, some (.cells (cs.take (i * sz) ++ cs.drop ((i + 1) * sz)) ⟨false, none⟩))]) ∨ (i + 1 = n ∧ id' = id ∧ ver' = ver ∧ fl = true ∧ τ = [])
theorem DelC.place {σ τ : Heap} {id ver i n sz id' ver' : Nat} {cs : List AV} {fl : Bool} (h : DelC σ id ver i n cs sz id' ver' fl τ) : id' = id ∨ id' = σ.length := by
  rcases h.h with ⟨_, h1, _⟩ | ⟨_, h1, _⟩
  · exact .inr h1
  · exact .inl h1
theorem DelC.box {σ τ : Heap} {id ver i n sz id' ver' : Nat} {cs : List AV} {fl : Bool} (h : DelC σ id ver i n cs sz id' ver' fl τ) (hcs : cs.length = n * sz) (hσ : σ[id]? = some (ver, some (.cells cs ⟨false, none⟩))) :
    ∃ cs', (σ ++ τ)[id']? = some (ver', some (.cells cs' ⟨false, none⟩)) ∧ cs'.take ((n - 1) * sz) = cs.take (i * sz) ++ cs.drop ((i + 1) * sz) := by
  rcases h.h with ⟨hn, rfl, rfl, _, rfl⟩ | ⟨hn, rfl, rfl, _, rfl⟩
  · refine ⟨_, by simp, List.take_of_length_le ?_⟩
    rw [List.length_append, List.length_take, List.length_drop, hcs]
    have h1 : (i + 1) * sz + (n - (i + 1)) * sz = n * sz := by rw [← Nat.add_mul]; congr 1; omega
    have h2 : i * sz + (n - (i + 1)) * sz = (n - 1) * sz := by rw [← Nat.add_mul]; congr 1; omega
    have h3 : min (i * sz) (n * sz) ≤ i * sz := Nat.min_le_left ..
    omega
  · refine ⟨cs, by rw [List.append_nil]; exact hσ, ?_⟩
    subst hn
    rw [Nat.add_sub_cancel, List.drop_of_length_le (by omega), List.append_nil]
end
end Go.Ab
end
section
set_option linter.unusedVariables false
set_option linter.unusedSimpArgs false
namespace Go.Ab
open Go
section
variable {cx : Cx} {n : Nat} {B : Bs} {k : List AI} {Q : Post} {fr : Fr} {σ : Heap}
theorem wpAny_frontR {Stg : Array Bool → List AV → Heap → Prop} {ops : Array Oper} {m : Nat} {K : List Nat} {Q' : Exit → Act → World → Prop} (hmN : m ≤ ops.size) (hlen : ∀ listed vals σ, Stg listed vals σ → vals.length = m)
    (hread : ∀ j o t, j < m → ops.toList[j]? = some o → t ∈ slotsOf ops.toList o → readOk ops.toList m j t = true)
    (huniq : ∀ i j d, i < m → j < m → dstOf ops.toList i = some d → dstOf ops.toList j = some d → i = j)
    (hch : ∀ j, m < j → j < ops.size → edge ops.toList j (j - 1) = true) (hlo : ∀ j i, edge ops.toList j i = true → i < j)
    (hcl : m < ops.size → ∀ i, i < m → ∃ k, i < k ∧ k ≤ m ∧ edge ops.toList k i = true)
    (hdst : ∀ (j : Nat) (o : Oper), j < m → ops.toList[j]? = some o → dstOk n o.dst = true)
    (hstep : ∀ (listed : Array Bool) (vals : List AV) (σ : Heap), Stg listed vals σ → ∀ (j : Nat) o, j < m → ops.toList[j]? = some o → listed.size = ops.size → ¬ Listed listed j → (∀ i, edge ops.toList j i = true → Listed listed i) → Down ops.toList listed →
      (guardA ops o K (restr ops.toList o (ovl (ops.toList.take j) (vals.take j) fr)) = some false ∧ Stg (listed.setIfInBounds j true) (vals.set j (.tup [])) σ) ∨
      (guardA ops o K (restr ops.toList o (ovl (ops.toList.take j) (vals.take j) fr)) = some true ∧ ∀ r a w, Inv cx r σ w → FRel r w n (restr ops.toList o (ovl (ops.toList.take j) (vals.take j) fr)) a → ∀ Q, o.wp cx.P a w (fun a' w' => ∃ v σ' vals', (∀ i, Listed (listed.setIfInBounds j true) i → vals'[i]? = (vals.set j v)[i]?) ∧ Stg (listed.setIfInBounds j true) vals' σ' ∧ ∃ r' v', a' = a.put o.dst v' ∧ VRel r' w' v' v ∧ Inv cx r' σ' w' ∧ Ext r σ w r' σ' w') Q))
    (hend : ∀ (listed : Array Bool) (vals : List AV) (σ : Heap), Stg listed vals σ → (∀ j, j < m → Listed listed j) → ∀ r a w, Inv cx r σ w → FRel r w n (ovl (ops.toList.take m) vals fr) a → Dfs B a → Ext B.r B.σ B.w r σ w → wpList cx.P ops Q' (ops.toList.drop m) a w) :
    ∀ (f : Nat) (listed : Array Bool) (vals : List AV) (σ : Heap) (r : Rl) (a : Act) (w : World), Stg listed vals σ → listed.size = ops.size → unl listed = f → Down ops.toList listed → (∀ j, m ≤ j → ¬ Listed listed j) →
      FL r w n fr ops.toList m vals listed a → Inv cx r σ w → Dfs B a → Ext B.r B.σ B.w r σ w → wpAny cx.P .any ops Q' f listed a w := by
  have ovlN : ∀ (vals : List AV), vals.length = m → ∀ i, i ≤ m → ∀ vs, (ovl (ops.toList.take i) (vals.take i) fr).get n = .mark vs → fr.get n = .mark vs := by
    intro vals hlen i him vs hm
    rcases ovl_get (ops.toList.take i) (vals.take i) fr n (by simp [hlen]; omega) with ⟨i', o', v', k1, k2, k3, k4⟩ | ⟨k1, k2⟩
    · exfalso
      have hi'i : i' < i := by
        rcases Nat.lt_or_ge i' i with h' | h'
        · exact h'
        · rw [List.getElem?_eq_none (by simp; omega)] at k1; cases k1
      rw [List.getElem?_take_of_lt hi'i] at k1 k3
      have hds : dstOk n o'.dst = true := hdst i' o' (by omega) k1
      rw [k2] at hds
      have := blt_lt hds
      omega
    · rw [← k2]; exact hm
  have fin : ∀ (f : Nat) (listed : Array Bool) (vals : List AV) (σ : Heap) (r : Rl) (a : Act) (w : World), Stg listed vals σ → listed.size = ops.size → unl listed = f → (∀ j, j < m → Listed listed j) → (∀ j, m ≤ j → ¬ Listed listed j) →
      FL r w n fr ops.toList m vals listed a → Inv cx r σ w → Dfs B a → Ext B.r B.σ B.w r σ w → wpAny cx.P .any ops Q' f listed a w := by
    intro f listed vals σ r a w hS hs hf hall hno hfl hi hd hx
    have hlen := hlen _ _ _ hS
    have hcount : unl listed + m = ops.size := by
      have hl : listed.toList = List.replicate m true ++ List.replicate (ops.size - m) false := by
        apply List.ext_getElem
        · simp; omega
        · intro j h1 h2
          have hj : j < listed.size := by simpa using h1
          have h3 : listed.getD j false = listed.toList[j] := by simp [Array.getD_eq_getD_getElem?, hj]
          by_cases hjm : j < m
          · rw [List.getElem_append_left (by simpa using hjm), List.getElem_replicate, ← h3]; exact hall j hjm
          · rw [List.getElem_append_right (by simp; omega), List.getElem_replicate, ← h3]
            have := hno j (by omega)
            unfold Listed at this
            simpa using this
      unfold unl
      rw [hl, List.countP_append, List.countP_replicate, List.countP_replicate]
      simp; omega
    refine wpAny_tail hch hlo f m listed a w (by omega) (Nat.le_refl m) hs (fun i hi' => ⟨fun h => ?_, fun h => hall i h⟩) (hend listed vals σ hS hall r a w hi ⟨hfl.size, fun t => ?_, fun vs hm => ?_⟩ hd hx)
    case refine_3 =>
      refine hfl.defs vs (ovlN vals hlen m (Nat.le_refl _) vs ?_)
      rw [show vals.take m = vals from List.take_of_length_le (by omega)]
      exact hm
    · rcases Nat.lt_or_ge i m with h' | h'
      · exact h'
      · exact absurd h (hno i h')
    · rcases ovl_get (ops.toList.take m) vals fr t (by simp [hlen]; omega) with ⟨i, o, v, h1, h2, h3, h4⟩ | ⟨h1, h2⟩
      · rw [h4]
        have him : i < m := by
          rcases Nat.lt_or_ge i m with h' | h'
          · exact h'
          · rw [List.getElem?_eq_none (by simp; omega)] at h1; cases h1
        rw [List.getElem?_take_of_lt him] at h1
        exact hfl.done i t v him (hall i him) (by simp [dstOf, h1, h2]) h3
      · rw [h2]
        refine hfl.rest t (fun j hj _ hdj => ?_)
        obtain ⟨o, ho, hod⟩ := Option.bind_eq_some_iff.1 hdj
        exact h1 j o (by rw [List.getElem?_take_of_lt hj]; exact ho) hod
  intro f
  induction f with
  | zero =>
    intro listed vals σ r a w hS hs hf hdn hno hfl hi hd hx
    refine fin 0 listed vals σ r a w hS hs hf (fun j hj => ?_) hno hfl hi hd hx
    rcases hb : listed.getD j false with _ | _
    · have := unl_set (by omega) hb
      omega
    · exact hb
  | succ f ih =>
    intro listed vals σ r a w hS hs hf hdn hno hfl hi hd hx
    have hlenS := hlen _ _ _ hS
    by_cases hall : ∀ j, j < m → Listed listed j
    · exact fin (f + 1) listed vals σ r a w hS hs hf hall hno hfl hi hd hx
    have hex : ∃ j, j < m ∧ ¬ Listed listed j := by
      apply Classical.byContradiction
      intro h
      exact hall (fun j hj => Classical.byContradiction fun hl => h ⟨j, hj, hl⟩)
    refine ⟨fun h0 => ?_, fun i hir => ?_⟩
    · obtain ⟨j, h1, h2, h3⟩ := exists_least m hex
      have hjr : j ∈ Region.ready .any ops listed := by
        refine mem_ready.2 ⟨?_, ops[j]'(by omega), Array.getElem?_eq_getElem _, fun e he hb => ?_⟩
        · rw [listed_true (by omega)]; simpa [Listed] using h2
        · have h4 : e.on < j := hlo j e.on (edge_iff.2 ⟨ops[j]'(by omega), Array.getElem?_eq_getElem _, e, he, hb, rfl⟩)
          exact Classical.byContradiction fun h5 => h3 e.on h4 h5
      rw [h0] at hjr; cases hjr
    · obtain ⟨h0, o, ho, hedges⟩ := mem_ready.1 hir
      have hilt := (Array.getElem?_eq_some_iff.1 ho).1
      rw [listed_true (by omega)] at h0
      have hed : ∀ j, edge ops.toList i j = true → Listed listed j := by
        intro j hj
        obtain ⟨o', ho', e, he, hb, hon⟩ := edge_iff.1 hj
        rw [ho] at ho'; cases ho'
        rw [← hon]; exact hedges e he hb
      have him : i < m := by
        rcases Nat.lt_or_ge i m with h' | h'
        · exact h'
        · exfalso
          rcases Nat.eq_or_lt_of_le h' with h'' | h''
          · subst h''
            refine hall (fun j hj => ?_)
            have key : ∀ d j, d + j = m → j < m → Listed listed j := by
              intro d
              induction d using Nat.strongRecOn with
              | _ d ihd =>
                intro j hdj hj
                obtain ⟨k, h1, h2, h3⟩ := hcl hilt j hj
                rcases Nat.eq_or_lt_of_le h2 with h4 | h4
                · subst h4; exact hed j h3
                · exact hdn k j (ihd (m - k) (by omega) k (by omega) h4) h3
            exact key (m - j) j (by omega) hj
          · exact hno (i - 1) (by omega) (hed _ (hch i h'' hilt))
      have hol : ops.toList[i]? = some o := by simpa using ho
      have hst := hstep listed vals σ hS i o him hol hs (by simp [Listed, h0]) hed hdn
      have hdstI := hdst i o him hol
      have hnl : ¬ Listed listed i := by simp [Listed, h0]
      have hfr : FRel r w n (restr ops.toList o (ovl (ops.toList.take i) (vals.take i) fr)) a := by
        refine ⟨hfl.size, fun t => ?_, fun vs hm => ?_⟩
        case refine_2 =>
          unfold restr at hm
          rcases restr_get (slotsOf ops.toList o) (ovl (ops.toList.take i) (vals.take i) fr) n with h | ⟨h1, h2⟩
          · rw [h] at hm; cases hm
          · rw [h2] at hm
            exact hfl.defs vs (ovlN vals hlenS i (by omega) vs hm)
        unfold restr
        rcases restr_get (slotsOf ops.toList o) (ovl (ops.toList.take i) (vals.take i) fr) t with h | ⟨h1, h2⟩
        · rw [h]; exact .top
        · rw [h2]
          have hro := hread i o t him hol h1
          have hrd : ∀ i', i' < m → dstOf ops.toList i' = some t → (i' < i → edge ops.toList i i' = true) ∧ (i < i' → edge ops.toList i' i = true) := by
            intro i' hi' hd'
            have := allB_mem hro _ (List.mem_map.2 ⟨i', List.mem_range.2 hi', rfl⟩)
            rw [eqDst_iff.2 hd'] at this
            simp only at this
            constructor
            · intro hlt
              rw [lt_blt hlt] at this
              exact this
            · intro hlt
              rw [show Nat.blt i' i = false by cases hbb : Nat.blt i' i with | false => rfl | true => (have := blt_lt hbb; omega), show Nat.beq i' i = false by cases hbb : Nat.beq i' i with | false => rfl | true => (have := Nat.eq_of_beq_eq_true hbb; omega)] at this
              exact this
          rcases ovl_get (ops.toList.take i) (vals.take i) fr t (by simp [hlenS]; omega) with ⟨i', o', v', k1, k2, k3, k4⟩ | ⟨k1, k2⟩
          · rw [k4]
            have hi'i : i' < i := by
              rcases Nat.lt_or_ge i' i with h' | h'
              · exact h'
              · rw [List.getElem?_eq_none (by simp; omega)] at k1; cases k1
            rw [List.getElem?_take_of_lt hi'i] at k1 k3
            have hd' : dstOf ops.toList i' = some t := by simp only [dstOf, k1, Option.bind_some, k2]
            exact hfl.done i' t v' (by omega) (hed _ ((hrd i' (by omega) hd').1 hi'i)) hd' k3
          · rw [k2]
            refine hfl.rest t (fun j hj hlj hdj => ?_)
            rcases Nat.lt_trichotomy j i with h' | h' | h'
            · obtain ⟨oj, hoj, hod⟩ := Option.bind_eq_some_iff.1 hdj
              exact k1 j oj (by rw [List.getElem?_take_of_lt h']; exact hoj) hod
            · subst h'; exact hnl hlj
            · exact hnl (hdn j i hlj ((hrd j hj hdj).2 h'))
      have next : ∀ (r' : Rl) (w' : World) (v' : Value) (v : AV) (σ' : Heap) (vals' : List AV), (∀ k, Listed (listed.setIfInBounds i true) k → vals'[k]? = (vals.set i v)[k]?) → Stg (listed.setIfInBounds i true) vals' σ' → VRel r' w' v' v → Inv cx r' σ' w' → Ext r σ w r' σ' w' → wpAny cx.P .any ops Q' f (listed.setIfInBounds i true) (a.put o.dst v') w' := by
        intro r' w' v' v σ' vals' hva hS' hv' hi' hx'
        have hun := unl_set (by omega) h0
        refine ih _ vals' σ' r' _ w' hS' (by simpa using hs) (by omega) (fun j l hj he => ?_) (fun j hj hl => ?_) ⟨?_, fun j d u hj hl hdj hu => ?_, fun t ht => ?_, fun vs hm => by rw [Act.put_defers]; exact (hfl.defs vs hm).mono (hx'.grow hi)⟩ hi' (hd.put _ _) (hx.trans hx')
        · rw [listed_set (by omega)] at hj ⊢
          rcases hj with rfl | hj
          · exact .inr (hed l he)
          · exact .inr (hdn j l hj he)
        · rw [listed_set (by omega)] at hl
          rcases hl with rfl | hl
          · omega
          · exact hno j hj hl
        · cases hod : o.dst <;> simp [Act.put, hfl.size]
        · have hg := hx'.grow hi
          rw [hva j hl] at hu
          rw [listed_set (by omega)] at hl
          by_cases hji : j = i
          · subst hji
            rw [List.getElem?_set, if_pos rfl, if_pos (by omega)] at hu; cases hu
            have hod : o.dst = some d := by simpa [dstOf, hol] using hdj
            rw [hod]
            rw [hod] at hdstI
            simp only [Act.put]
            rw [getD_setIfInBounds (by rw [hfl.size]; exact blt_lt hdstI), if_pos rfl]
            exact hv'
          · have hl' := hl.resolve_left hji
            rw [List.getElem?_set, if_neg (Ne.symm hji)] at hu
            have hold := (hfl.done j d u hj hl' hdj hu).mono hg
            cases hod : o.dst with
            | none => exact hold
            | some d' =>
              have hne : d' ≠ d := fun e => hji (huniq j i d hj him hdj (by subst e; simp [dstOf, hol, hod]))
              rw [hod] at hdstI
              simp only [Act.put]
              rw [getD_setIfInBounds (by rw [hfl.size]; exact blt_lt hdstI), if_neg hne]
              exact hold
        · have hg := hx'.grow hi
          have hold := (hfl.rest t (fun j hj hl => ht j hj ((listed_set (by omega)).2 (.inr hl)))).mono hg
          have hti := ht i him ((listed_set (by omega)).2 (.inl rfl))
          cases hod : o.dst with
          | none => exact hold
          | some d' =>
            have hne : d' ≠ t := fun e => hti (by subst e; simp [dstOf, hol, hod])
            rw [hod] at hdstI
            simp only [Act.put]
            rw [getD_setIfInBounds (by rw [hfl.size]; exact blt_lt hdstI), if_neg hne]
            exact hold
      unfold wpOp
      simp only [ho]
      rcases hst with ⟨hg, hS'⟩ | ⟨hg, hgo⟩
      · rw [guardA_wanted (cx := cx) hfr hg]
        simp only [Bool.false_eq_true, if_false]
        exact next r w undef (.tup []) σ _ (fun _ _ => rfl) hS' (.tup rfl (fun i h => absurd h (by simp))) hi (Ext.refl _ _ _)
      · rw [guardA_wanted (cx := cx) hfr hg]
        simp only [if_true]
        refine .inl (Oper.wp_mono (fun a' w' h => ?_) (hgo r a w hi hfr Q'))
        obtain ⟨v, σ', vals', hva, hS', r', v', rfl, h2, h3, h4⟩ := h
        exact next r' w' v' v σ' vals' hva hS' h2 h3 h4
def StepR (cx : Cx) (n : Nat) (all : Array Oper) (σ : Heap) (R : AV → Heap → Prop) (K : List Nat) (fr : Fr) (o : Oper) : Prop :=
  guardA all o K fr = some true ∧ ∀ r a w, Inv cx r σ w → FRel r w n fr a → ∀ Q, o.wp cx.P a w (fun a' w' => ∃ v σ', R v σ' ∧ ∃ r' v', a' = a.put o.dst v' ∧ VRel r' w' v' v ∧ Inv cx r' σ' w' ∧ Ext r σ w r' σ' w') Q
theorem callR_step {R : AV → Heap → Prop} {R' : Out → Heap → Prop} {K : List Nat} {all : Array Oper} {o : Oper} {f : FuncId} {args : List AV} (hg : guardA all o K fr = some true) (hc : callA cx fr o.op = some (f, args))
    (h : CallOk cx f args σ R') (hR : ∀ out t, R' out t → ∃ v, out = .ret v ∧ R v t) : StepR cx n all σ R K fr o := by
  refine ⟨hg, fun r a w hi hf Q => ?_⟩
  obtain ⟨vs, h1, h2⟩ := callA_run hi hf hc h.1
  unfold Oper.wp
  rw [h1, Oper.upon_enter]
  refine (h.2 r w vs hi h2).mono fun e w' ⟨out, σ1, r', hR1, hor, hi', hx'⟩ => ?_
  obtain ⟨v, rfl, hv⟩ := hR _ _ hR1
  cases e with
  | returned u => exact ⟨v, σ1, hv, r', u, rfl, hor, hi', hx'⟩
  | panicked chain => exact hor.elim
  | outgrown => exact hor.elim
theorem S_drawRR {id : Nat} {ops : Array Oper} (j1 j2 m : Nat) (rs : AV → AV → List AV) (R1 : AV → Heap → Prop) (R2 : AV → Heap → AV → Heap → Prop) (Good : Heap → Prop) {C : Heap → AV → AV → List Prop} {V : AV → AV → List AV} {fr' : AV → AV → Fr} (hP : cx.P.follows .mixedOrders = true) (hchk : drawOk ops.toList m = true) (hmN : Nat.ble m ops.size = true) (hj : Nat.blt j1 j2 = true) (hj2 : Nat.blt j2 m = true) (he : edge ops.toList j2 j1 = true) (hds : (ops.toList.take m).all (fun o => dstOk n o.dst) = true)
    (hrun : ∀ s v1 v2, runZ cx (guardKs ops.toList ops.toList) n ops ops.toList s [j1, j2] [] (ops.toList.take m) 0 fr (rs v1 v2) (fun C vs f => some (C, vs, f)) = some (C s v1 v2, V v1 v2, fr' v1 v2)) (hV1 : ∀ u v1 v2, (V v1 v2).set j1 u = V u v2) (hV2 : ∀ u v1 v2, (V v1 v2).set j2 u = V v1 u)
    (hg0 : Good σ) (hg1 : ∀ v1 σ1, R1 v1 σ1 → Good σ1) (hg2 : ∀ v1 σ1 v2 σ2, R1 v1 σ1 → R2 v1 σ1 v2 σ2 → Good σ2) (hC : ∀ s v1 v2, Good s → AllP (C s v1 v2))
    (hs1 : ∀ o, ops.toList[j1]? = some o → StepR cx n ops σ R1 (guardKs ops.toList ops.toList) (restr ops.toList o (ovl (ops.toList.take j1) ((V .top .top).take j1) fr)) o)
    (hs2 : ∀ v1 σ1, R1 v1 σ1 → ∀ o, ops.toList[j2]? = some o → StepR cx n ops σ1 (R2 v1 σ1) (guardKs ops.toList ops.toList) (restr ops.toList o (ovl (ops.toList.take j2) ((V v1 .top).take j2) fr)) o)
    (hk : ∀ v1 σ1 v2 σ2, R1 v1 σ1 → R2 v1 σ1 v2 σ2 → S cx n B (.ops ops (ops.toList.drop m) [] :: k) Q (fr' v1 v2) σ2) : S cx n B (.code (.region id ops true) :: k) Q fr σ := by
  intro r a w hi hf hd hx
  obtain ⟨c1, c2, c3, c4, c5⟩ := drawOk_spec hchk
  have key : ∀ s v1 v2, (V v1 v2).length = (ops.toList.take m).length ∧ fr' v1 v2 = ovl (ops.toList.take m) (V v1 v2) fr ∧ (Good s → ∀ (j : Nat) (o : Oper) (v : AV), (ops.toList.take m)[j]? = some o → (V v1 v2)[j]? = some v → 0 + j ∉ [j1, j2] → StepX cx n ops s s (guardKs ops.toList ops.toList) (restr ops.toList o (ovl ((ops.toList.take m).take j) ((V v1 v2).take j) fr)) o v) := fun s v1 v2 => by
    obtain ⟨C', vals', fr'', e, k1, k2, k3⟩ := runZ_spec _ _ _ _ _ (hrun s v1 v2)
    simp only [Option.some.injEq, Prod.mk.injEq] at e
    obtain ⟨rfl, rfl, rfl⟩ := e
    exact ⟨k1, k2, fun hs j o v a b c => k3 (hC s v1 v2 hs) j o v a b c List.not_mem_nil⟩
  have hmN' := Nat.le_of_ble_eq_true hmN
  have hjlt := blt_lt hj
  have hjlt2 := blt_lt hj2
  have hlen : ∀ v1 v2, (V v1 v2).length = m := fun v1 v2 => by rw [(key σ v1 v2).1, List.length_take, Array.length_toList]; omega
  obtain ⟨hi1, hx1⟩ := hi.heap_eq (w' := { w with drawn := w.drawn + 1 }) rfl rfl rfl rfl
  have hf1 := hf.mono (hx1.grow hi)
  have nl : ∀ {j : Nat}, ¬ Listed (Array.replicate ops.size false) j := by
    intro j hj
    unfold Listed at hj
    rw [Array.getD_eq_getD_getElem?, Array.getElem?_replicate] at hj
    split at hj <;> simp at hj
  have hgs : ∀ (listed : Array Bool) (i j : Nat), i < listed.size → (listed.setIfInBounds i true).getD j false = if j = i then true else listed.getD j false := by
    intro listed i j hil
    simp only [Array.getD_eq_getD_getElem?, Array.getElem?_setIfInBounds]
    by_cases h : i = j
    · subst h; simp [hil]
    · rw [if_neg h, if_neg (Ne.symm h)]
  obtain ⟨Stg, hStg⟩ : ∃ Stg : Array Bool → List AV → Heap → Prop, Stg = fun listed vals s => (¬ Listed listed j1 ∧ ¬ Listed listed j2 ∧ vals = V .top .top ∧ s = σ) ∨ (Listed listed j1 ∧ ¬ Listed listed j2 ∧ ∃ v1, R1 v1 s ∧ vals = V v1 .top) ∨ (Listed listed j1 ∧ Listed listed j2 ∧ ∃ v1 σ1 v2, R1 v1 σ1 ∧ R2 v1 σ1 v2 s ∧ vals = V v1 v2) := ⟨_, rfl⟩
  have hform : ∀ listed vals s, Stg listed vals s → Good s ∧ ∃ v1 v2, vals = V v1 v2 := fun listed vals s h => by
    rw [hStg] at h
    rcases h with ⟨_, _, rfl, rfl⟩ | ⟨_, _, v1, h1, rfl⟩ | ⟨_, _, v1, σ1, v2, h1, h2, rfl⟩
    · exact ⟨hg0, _, _, rfl⟩
    · exact ⟨hg1 _ _ h1, _, _, rfl⟩
    · exact ⟨hg2 _ _ _ _ h1 h2, _, _, rfl⟩
  have hdst : ∀ (j : Nat) (o : Oper), j < m → ops.toList[j]? = some o → dstOk n o.dst = true := fun j o hjm ho => List.all_eq_true.1 hds o (List.mem_of_getElem? (by rw [List.getElem?_take_of_lt hjm]; exact ho))
  refine wp_region_any hP ?_
  refine wpAny_frontR (Stg := Stg) (cx := cx) (n := n) (B := B) (fr := fr) (m := m) (K := guardKs ops.toList ops.toList) hmN' (fun listed vals s hS => ?_) c1 c2 c3 c4 c5 hdst (fun listed vals s hS j o hjm ho hsz hnl hed hdn => ?_) (fun listed vals s hS hall r a w hi hf hd hx => ?_) ops.size _ (V .top .top) σ r a _ ?_ (by simp) ?_ (fun j i hj => ?_) (fun j _ => ?_) ⟨hf1.size, fun j d v _ hj => ?_, fun t _ => hf1.get t, hf1.defs⟩ hi1 hd (hx.trans hx1)
  · obtain ⟨_, v1, v2, rfl⟩ := hform _ _ _ hS
    exact hlen v1 v2
  · have hset : ∀ i, Listed (listed.setIfInBounds j true) i ↔ i = j ∨ Listed listed i := fun i => by
      unfold Listed
      rw [hgs _ _ _ (by omega)]
      by_cases e : i = j
      · subst e; simp
      · simp [e]
    by_cases e1 : j = j1
    · subst e1
      rw [hStg] at hS
      rcases hS with ⟨_, hn2, rfl, rfl⟩ | ⟨h1, _⟩ | ⟨h1, _⟩
      · obtain ⟨hg, hgo⟩ := hs1 o ho
        refine .inr ⟨hg, fun r a w hi hf Q => Oper.wp_mono (fun a' w' h => ?_) (hgo r a w hi hf Q)⟩
        obtain ⟨v, σ', hR, hrest⟩ := h
        refine ⟨v, σ', _, fun _ _ => rfl, ?_, hrest⟩
        rw [hStg, hV1]
        exact .inr (.inl ⟨(hset j).2 (.inl rfl), fun h => ((hset j2).1 h).elim (fun e => by omega) hn2, v, hR, rfl⟩)
      · exact absurd h1 hnl
      · exact absurd h1 hnl
    · by_cases e2 : j = j2
      · subst e2
        have hl1 : Listed listed j1 := hed j1 he
        rw [hStg] at hS
        rcases hS with ⟨h1, _⟩ | ⟨_, _, v1, h1, rfl⟩ | ⟨_, h2, _⟩
        · exact absurd hl1 h1
        · obtain ⟨hg, hgo⟩ := hs2 v1 s h1 o ho
          refine .inr ⟨hg, fun r a w hi hf Q => Oper.wp_mono (fun a' w' h => ?_) (hgo r a w hi hf Q)⟩
          obtain ⟨v, σ', hR, hrest⟩ := h
          refine ⟨v, σ', _, fun _ _ => rfl, ?_, hrest⟩
          rw [hStg, hV2]
          exact .inr (.inr ⟨(hset j1).2 (.inr hl1), (hset j).2 (.inl rfl), v1, s, v, h1, hR, rfl⟩)
        · exact absurd h2 hnl
      · obtain ⟨hgd, v1, v2, hv⟩ := hform _ _ _ hS
        obtain ⟨v, hvj⟩ : ∃ v, (V v1 v2)[j]? = some v := ⟨(V v1 v2)[j]'(by rw [hlen]; exact hjm), List.getElem?_eq_getElem _⟩
        have hX := (key s v1 v2).2.2 hgd j o v (by rw [List.getElem?_take_of_lt hjm]; exact ho) hvj (by rw [Nat.zero_add]; simp [e1, e2])
        rw [List.take_take, Nat.min_eq_left (by omega), ← hv] at hX
        have hsame : vals.set j v = vals := by
          rw [hv]
          obtain ⟨hlt, hge⟩ := List.getElem?_eq_some_iff.1 hvj
          rw [← hge, List.set_getElem_self]
        have hkeep : Stg (listed.setIfInBounds j true) (vals.set j v) s := by
          rw [hsame]
          rw [hStg] at hS ⊢
          rcases hS with ⟨h1, h2, h3⟩ | ⟨h1, h2, h3⟩ | ⟨h1, h2, h3⟩
          · exact .inl ⟨fun h => ((hset j1).1 h).elim (fun e => e1 e.symm) h1, fun h => ((hset j2).1 h).elim (fun e => e2 e.symm) h2, h3⟩
          · exact .inr (.inl ⟨(hset j1).2 (.inr h1), fun h => ((hset j2).1 h).elim (fun e => e2 e.symm) h2, h3⟩)
          · exact .inr (.inr ⟨(hset j1).2 (.inr h1), (hset j2).2 (.inr h2), h3⟩)
        rcases hX.2 with ⟨hg, rfl, _⟩ | ⟨hg, hgo⟩
        · exact .inl ⟨hg, hkeep⟩
        · refine .inr ⟨hg, fun r a w hi hf Q => Oper.wp_mono (fun a' w' h => ?_) (hgo r a w hi hf Q)⟩
          obtain ⟨r', v', h1, h2, h3, h4⟩ := h
          exact ⟨v, s, _, fun _ _ => rfl, hkeep, r', v', h1, h2, h3, h4⟩
  · rw [hStg] at hS
    rcases hS with ⟨h1, _⟩ | ⟨_, h2, _⟩ | ⟨_, _, v1, σ1, v2, h1, h2, rfl⟩
    · exact absurd (hall j1 (by omega)) h1
    · exact absurd (hall j2 hjlt2) h2
    · have := hk v1 σ1 v2 s h1 h2
      rw [(key σ v1 v2).2.1] at this
      exact this r a w hi hf hd hx
  · rw [hStg]; exact .inl ⟨nl, nl, rfl, rfl⟩
  · unfold unl; simp [List.countP_replicate]
  · exact absurd hj nl
  · exact nl
  · exact absurd hj nl
theorem specR_step {σ σ' : Heap} {R : AV → Heap → Prop} {K : List Nat} {all : Array Oper} {o : Oper} {v : AV} (hg : guardA all o K fr = some true) (h : OpSpec cx n fr σ o v σ') (hR : R v σ') : StepR cx n all σ R K fr o := by
  refine ⟨hg, fun r a w hi hf Q => ?_⟩
  obtain ⟨r', w', v', hrun, hv, hi', hx'⟩ := h r a w hi hf
  unfold Oper.wp
  rcases hrun with hrun | ⟨hrun, hu⟩
  · rw [hrun]; exact ⟨v, σ', hR, r', v', rfl, hv, hi', hx'⟩
  · rw [hrun]; subst hu; exact ⟨v, σ', hR, r', _, rfl, hv, hi', hx'⟩
end
end Go.Ab
end
section
set_option linter.unusedVariables false
set_option linter.unusedSimpArgs false
namespace Go.Ab
open Go
theorem set_ne {σ : Heap} {i j : Nat} {x : Nat × Option Box} (h : i ≠ j) : (σ.set j x)[i]? = σ[i]? := by rw [List.getElem?_set, if_neg (Ne.symm h)]
theorem set_eq {σ : Heap} {j : Nat} {x y : Nat × Option Box} (h : σ[j]? = some y) : (σ.set j x)[j]? = some x := by
  have hi : j < σ.length := by
    rcases Nat.lt_or_ge j σ.length with h' | h'
    · exact h'
    · rw [List.getElem?_eq_none h'] at h; cases h
  simp [hi]
theorem lt_of_get {σ : Heap} {i : Nat} {y : Nat × Option Box} (h : σ[i]? = some y) : i < σ.length := by
  rcases Nat.lt_or_ge i σ.length with h' | h'
  · exact h'
  · rw [List.getElem?_eq_none h'] at h; cases h
theorem app_get {σ : Heap} {i : Nat} {y x : Nat × Option Box} (h : σ[i]? = some y) : (σ ++ [x])[i]? = some y := by
  rw [List.getElem?_append_left (lt_of_get h)]; exact h
theorem app_last {σ : Heap} {x : Nat × Option Box} : (σ ++ [x])[σ.length]? = some x := by simp
structure QKeep (σ σ' : Heap) (own own' : Nat → Prop) : Prop where
  len : σ.length ≤ σ'.length
  same : ∀ id, id < σ.length → ¬ own id → σ'[id]? = σ[id]?
  new : ∀ id, own' id → own id ∨ σ.length ≤ id
theorem QKeep.trans {σ σ1 σ2 : Heap} {o o1 o2 : Nat → Prop} (h : QKeep σ σ1 o o1) (h2 : QKeep σ1 σ2 o1 o2) : QKeep σ σ2 o o2 := by
  refine ⟨Nat.le_trans h.len h2.len, fun id hid hno => ?_, fun id hid => ?_⟩
  · have : ¬ o1 id := fun h1 => by
      rcases h.new id h1 with h3 | h3
      · exact hno h3
      · omega
    rw [h2.same id (Nat.lt_of_lt_of_le hid h.len) this, h.same id hid hno]
  · rcases h2.new id hid with h3 | h3
    · exact h.new id h3
    · exact .inr (Nat.le_trans h.len h3)
theorem QKeep.app {σ τ : Heap} {o : Nat → Prop} : QKeep σ (σ ++ τ) o o := ⟨by simp, fun id hid _ => List.getElem?_append_left hid, fun id h => .inl h⟩
theorem QKeep.refl {σ : Heap} {o : Nat → Prop} : QKeep σ σ o o := ⟨Nat.le_refl _, fun id hid _ => rfl, fun id h => .inl h⟩
theorem QKeep.set {σ σ' : Heap} {o o' : Nat → Prop} (h : QKeep σ σ' o o') {id : Nat} (hid : σ.length ≤ id) (x : Nat × Option Box) : QKeep σ (σ'.set id x) o o' :=
  ⟨by rw [List.length_set]; exact h.len, fun j hj hno => by rw [set_ne (by omega)]; exact h.same j hj hno, h.new⟩
theorem QKeep.setO {σ σ' : Heap} {o o' : Nat → Prop} (h : QKeep σ σ' o o') {id : Nat} (hid : o id) (x : Nat × Option Box) : QKeep σ (σ'.set id x) o o' :=
  ⟨by rw [List.length_set]; exact h.len, fun j hj hno => by rw [set_ne (by rintro rfl; exact hno hid)]; exact h.same j hj hno, h.new⟩
theorem QKeep.own {σ σ' : Heap} {o o' o2 : Nat → Prop} (h : QKeep σ σ' o o') (h2 : ∀ id, o2 id → o' id ∨ σ.length ≤ id) : QKeep σ σ' o o2 :=
  ⟨h.len, h.same, fun id hid => (h2 id hid).elim (h.new id) .inr⟩
theorem nodup_inj {α : Type} {l : List α} (h : l.Nodup) {i k : Nat} (hi : i < l.length) (hk : k < l.length) (e : l[i] = l[k]) : i = k := by
  have hp := List.pairwise_iff_getElem.1 h
  rcases Nat.lt_trichotomy i k with h' | h' | h'
  · exact absurd e (hp i k hi hk h')
  · exact h'
  · exact absurd e.symm (hp k i hk hi h')
theorem getErase {α : Type} : ∀ {l : List α} {i : Nat} (h : i < l.length), (l[i] :: l.eraseIdx i).Perm l
  | x :: r, 0, _ => .refl _
  | x :: r, i + 1, h => by
    have := getErase (l := r) (i := i) (Nat.lt_of_succ_lt_succ h)
    exact (List.Perm.swap ..).trans (this.cons x)
theorem setRange_1 {cs : List AV} {i : Nat} {x : AV} (h : i < cs.length) : setRange cs i [x] = cs.set i x := by
  apply List.ext_getElem?
  intro k
  rw [setRange_get _ _ _ (by simp; omega), List.getElem?_set]
  by_cases hk : i = k
  · subst hk; simp [h]
  · rw [if_neg (by simp; omega), if_neg hk]
end Go.Ab
end
section
set_option linter.unusedVariables false
set_option linter.unusedSimpArgs false
namespace Go.Ab
open Go
theorem run_sameAddr_cells {P : Program} (w : World) {b b' o o' lo hi lo' hi' : Nat} {c c' : Array Value} {t t' : TypeId} (hne : b ≠ b') (h1 : w.heap[b]? = some (.cells c t (lo, hi))) (h2 : w.heap[b']? = some (.cells c' t' (lo', hi'))) (z1 : hi ≤ lo) (z2 : hi' ≤ lo') :
    (sameAddr ⟨b, o, none⟩ ⟨b', o', none⟩).run P w = .ok false w := by
  have f1 : ∀ x, (decide (lo ≤ x) && decide (x < hi)) = false := fun x => by
    rw [Bool.and_eq_false_iff]
    simp only [decide_eq_false_iff_not]
    omega
  have f2 : ∀ x, (decide (lo' ≤ x) && decide (x < hi')) = false := fun x => by
    rw [Bool.and_eq_false_iff]
    simp only [decide_eq_false_iff_not]
    omega
  simp [sameAddr, hne, World.frozen?, h1, h2, noView, viewAt, World.shape?, mayBeOne, stringish, f1, f2]
section
variable {cx : Cx} {n : Nat} {fr : Fr} {σ : Heap}
theorem OpSpec.ptrEq {o : Oper} {t e t' T T' : TypeId} {x y : Operand} {id id' ver ver' m : Nat} {cs cs' : List AV} (ho : o.op = .binOp .eql t x y t') (hu : cx.P.underlying t = some (.pointer e)) (hsz : szOf cx.P e = some m) (hm : m ≠ 0) (hx : ev cx fr x = .ptr id ver 0) (hy : ev cx fr y = .ptr id' ver' 0)
    (hσ : σ[id]? = some (ver, some (.cells cs ⟨false, some T⟩))) (hσ' : σ[id']? = some (ver', some (.cells cs' ⟨false, some T'⟩))) (hc : cs ≠ []) (hc' : cs' ≠ []) (hu8 : tyU8 cx.P T = none) (hu8' : tyU8 cx.P T' = none) : OpSpec cx n fr σ o (.bool (id == id')) σ := by
  intro r ac w hi hf
  have h1 := ev_rel hi hf x
  have h2 := ev_rel hi hf y
  rw [hx] at h1
  rw [hy] at h2
  obtain ⟨dst, op, ty, pos, after, guard⟩ := o
  simp only at ho
  subst ho
  obtain ⟨j, hj, hj0⟩ : ∃ j, cx.P.info? e = some j ∧ j.size ≠ 0 := by
    unfold szOf at hsz
    split at hsz
    · rename_i j hj; simp only [Option.some.injEq] at hsz; exact ⟨j, hj, by rw [hsz]; exact hm⟩
    · cases hsz
  have fin : ∀ (u v : Value) (b : Bool), (eqGuard .eql t x y u v = pure ()) → (binOp .eql t u v = (do pure (.bool (← Op.equal t u v)))) → (∀ d, (Op.equalIn (d + 1) t u v).run cx.P w = .ok b w) → (do eqGuard .eql t x y u v; binOp .eql t u v : Sem Value).run cx.P w = .ok (.bool b) w := by
    intro u v b q1 q2 q3
    have q4 : (Op.equal t u v).run cx.P w = .ok b w := q3 9999
    rw [q1, q2]
    simp only [Sem.run_bind, Sem.run_pure, Result.andThen_ok, q4]
  have key : ∀ (u v : Value), VRel r w u (.ptr id ver 0) → VRel r w v (.ptr id' ver' 0) → (do eqGuard .eql t x y u v; binOp .eql t u v : Sem Value).run cx.P w = .ok (.bool (id == id')) w := by
    intro u v hu' hv'
    cases hu'
    cases hv'
    rename_i b o hρ b' o' hρ'
    by_cases hid : id = id'
    · subst hid
      have hvv : ver = ver' := by
        rw [hσ] at hσ'
        simp only [Option.some.injEq, Prod.mk.injEq] at hσ'
        exact hσ'.1
      subst hvv
      rw [hρ] at hρ'
      simp only [Option.some.injEq, Prod.mk.injEq] at hρ'
      obtain ⟨rfl, rfl⟩ := hρ'
      refine fin _ _ _ rfl rfl fun d => ?_
      simp [Op.equalIn, run_underlying hu, sizeOf, hj, run_sameAddr_same, typeInfo]
    · have hb : b ≠ b' := by
        rintro rfl
        exact hid (hi.inj _ _ _ _ _ _ _ _ _ hσ hσ' hρ hρ')
      rcases hi.box id ver _ hσ with ⟨b1, o1, k1, k2⟩ | ⟨_, ro, h⟩
      case inr => cases h; exact absurd rfl hc
      rcases hi.box id' ver' _ hσ' with ⟨b2, o2, k3, k4⟩ | ⟨_, ro, h⟩
      case inr => cases h; exact absurd rfl hc'
      rw [hρ] at k1
      rw [hρ'] at k3
      simp only [Option.some.injEq, Prod.mk.injEq] at k1 k3
      obtain ⟨rfl, rfl⟩ := k1
      obtain ⟨rfl, rfl⟩ := k3
      obtain ⟨c, ty1, lo, hi1, q1, _, _, _, q5⟩ := k2
      obtain ⟨c', ty2, lo', hi2, q1', _, _, _, q5'⟩ := k4
      obtain ⟨_, _, z1⟩ := q5 T rfl
      obtain ⟨_, _, z2⟩ := q5' T' rfl
      have hs := fun o o' => run_sameAddr_cells (P := cx.P) (o := o) (o' := o') w hb q1 q1' (z1 rfl hu8) (z2 rfl hu8')
      have hf : (id == id') = false := by simpa using hid
      rw [hf]
      refine fin _ _ _ rfl rfl fun d => ?_
      simp [Op.equalIn, run_underlying hu, sizeOf, hj, hj0, hs, typeInfo]
  refine ⟨r, w, .bool (id == id'), .inl ?_, .bool, hi, Ext.refl _ _ _⟩
  have := key _ _ h1 h2
  simp only [execOp]
  exact exec_v this
end
end Go.Ab
end
section
namespace Go.Proofs.YtfpdfpdlekngfaaDoor
open Go Go.Ab
def openU (_ : Nat) : Bool := false
def kTab : List Nat := [0x428a2f98, 0x71374491, 0xb5c0fbcf, 0xe9b5dba5, 0x3956c25b, 0x59f111f1, 0x923f82a4, 0xab1c5ed5, 0xd807aa98, 0x12835b01, 0x243185be, 0x550c7dc3, 0x72be5d74, 0x80deb1fe, 0x9bdc06a7, 0xc19bf174, 0xe49b69c1, 0xefbe4786, 0x0fc19dc6, 0x240ca1cc, 0x2de92c6f, 0x4a7484aa, 0x5cb0a9dc, 0x76f988da, 0x983e5152, 0xa831c66d, 0xb00327c8, 0xbf597fc7, 0xc6e00bf3, 0xd5a79147, 0x06ca6351, 0x14292967, 0x27b70a85, 0x2e1b2138, 0x4d2c6dfc, 0x53380d13, 0x650a7354, 0x766a0abb, 0x81c2c92e, 0x92722c85, 0xa2bfe8a1, 0xa81a664b, 0xc24b8b70, 0xc76c51a3, 0xd192e819, 0xd6990624, 0xf40e3585, 0x106aa070, 0x19a4c116, 0x1e376c08, 0x2748774c, 0x34b0bcb5, 0x391c0cb3, 0x4ed8aa4a, 0x5b9cca4f, 0x682e6ff3, 0x748f82ee, 0x78a5636f, 0x84c87814, 0x8cc70208, 0x90befffa, 0xa4506ceb, 0xbef9a3f7, 0xc67178f2]
def hTab : List Nat := [0x6a09e667, 0xbb67ae85, 0x3c6ef372, 0xa54ff53a, 0x510e527f, 0x9b05688c, 0x1f83d9ab, 0x5be0cd19]
def u32L (l : List Nat) : List AV := l.map fun n => .int .u32 (n : Nat)
def tabs0 (_ : Nat) : Option (List AV) := none
def tabs (g : Nat) : Option (List AV) := bif Nat.beq g 0 then some (u32L hTab) else bif Nat.beq g 1 then some (u32L kTab) else tabs0 g
def whole (_ : Nat) : Option (Array Value) := none
noncomputable def cx : Cx := { P := Tryd.prog, G := tabs, U := openU, X := whole }
end Go.Proofs.YtfpdfpdlekngfaaDoor
end
section
set_option linter.unusedVariables false
set_option linter.unusedSimpArgs false
set_option maxRecDepth 20000
namespace Go.Proofs.YtfpdfpdlekngfaaDoor
open Go Go.Ab
def M32 : Nat := 4294967296
def rotr (x n : Nat) : Nat := (x * 2 ^ (32 - n) % M32) ||| (x / 2 ^ n)
def beW (p : List UInt8) (i : Nat) : Nat := (((p.getD i 0).toNat * 256 + (p.getD (i + 1) 0).toNat) * 256 + (p.getD (i + 2) 0).toNat) * 256 + (p.getD (i + 3) 0).toNat
def sig0 (x : Nat) : Nat := rotr x 7 ^^^ rotr x 18 ^^^ (x / 8)
def sig1 (x : Nat) : Nat := rotr x 17 ^^^ rotr x 19 ^^^ (x / 1024)
def Sig0 (x : Nat) : Nat := rotr x 2 ^^^ rotr x 13 ^^^ rotr x 22
def Sig1 (x : Nat) : Nat := rotr x 6 ^^^ rotr x 11 ^^^ rotr x 25
def wNext (w : List Nat) : Nat := (w.getD (w.length - 16) 0 + sig0 (w.getD (w.length - 15) 0) + w.getD (w.length - 7) 0 + sig1 (w.getD (w.length - 2) 0)) % M32
def sched : Nat → List Nat → List Nat
  | 0, w => w
  | k + 1, w => sched k (w ++ [wNext w])
def words (p : List UInt8) : List Nat := (List.range 16).map fun t => beW p (4 * t)
def schedOf (p : List UInt8) : List Nat := sched 48 (words p)
def round (v : List Nat) (kw : Nat) : List Nat :=
  let e := v.getD 4 0
  let a := v.getD 0 0
  let u := (v.getD 7 0 + Sig1 e + ((e &&& v.getD 5 0) ^^^ ((4294967295 - e) &&& v.getD 6 0)) + kw) % M32
  let x := (Sig0 a + ((a &&& v.getD 1 0) ^^^ (a &&& v.getD 2 0) ^^^ (v.getD 1 0 &&& v.getD 2 0))) % M32
  [(u + x) % M32, a, v.getD 1 0, v.getD 2 0, (v.getD 3 0 + u) % M32, e, v.getD 5 0, v.getD 6 0]
def rounds : Nat → Nat → List Nat → List Nat → List Nat
  | 0, t, w, v => v
  | k + 1, t, w, v => rounds k (t + 1) w (round v (kTab.getD t 0 + w.getD t 0))
def addW (a b : List Nat) : List Nat := (List.range 8).map fun i => (a.getD i 0 + b.getD i 0) % M32
def block (h : List Nat) (p : List UInt8) : List Nat := addW h (rounds 64 0 (schedOf p) h)
def blocks : Nat → List Nat → List UInt8 → List Nat
  | 0, h, p => h
  | k + 1, h, p => blocks k (block h (p.take 64)) (p.drop 64)
def padLen (n : Nat) : Nat := (119 - n % 64) % 64
def be8 (n : Nat) : List UInt8 := (List.range 8).map fun i => UInt8.ofNat (n / 256 ^ (7 - i) % 256)
def padded (s : List UInt8) : List UInt8 := s ++ [128] ++ List.replicate (padLen s.length) 0 ++ be8 (8 * s.length)
def hashOf (s : List UInt8) : List Nat := blocks ((padded s).length / 64) hTab (padded s)
def hexC (n : Nat) : UInt8 := ("0123456789abcdef".toUTF8.data.toList).getD n 0
def hexW (n : Nat) : List UInt8 := (List.range 8).map fun i => hexC (n / 16 ^ (7 - i) % 16)
def sha (s : List UInt8) : List UInt8 := (hashOf s).flatMap hexW
end Go.Proofs.YtfpdfpdlekngfaaDoor
end
section
set_option linter.unusedVariables false
set_option linter.unusedSimpArgs false
set_option maxRecDepth 20000
namespace Go.Proofs.YtfpdfpdlekngfaaDoor
open Go Go.Ab
theorem u32add (a b : Nat) : IntKind.u32.wrap ((a : Int) + (b : Int)) = (((a + b) % M32 : Nat) : Int) := by
  rw [show (a : Int) + (b : Int) = ((a + b : Nat) : Int) from rfl, wrap_low rfl]; rfl
theorem u32xor {a b : Nat} (ha : a < M32) (hb : b < M32) : bitsA .xor .u32 (a : Int) (b : Int) = ((a ^^^ b : Nat) : Int) := bits_xor rfl ha hb
theorem u32and {a b : Nat} (ha : a < M32) (hb : b < M32) : bitsA .and .u32 (a : Int) (b : Int) = ((a &&& b : Nat) : Int) := bits_and rfl ha hb
theorem u32or {a b : Nat} (ha : a < M32) (hb : b < M32) : bitsA .or .u32 (a : Int) (b : Int) = ((a ||| b : Nat) : Int) := bits_or rfl ha hb
theorem u32not {a : Nat} (ha : a < M32) : bitsA .xor .u32 4294967295 (a : Int) = ((4294967295 - a : Nat) : Int) := by
  rw [show (4294967295 : Int) = ((4294967295 : Nat) : Int) from rfl, u32xor (by decide) ha, xor_ones ha]
theorem u32not' {a : Nat} (ha : a < M32) : bitsA .xor .u32 (if IntKind.u32.signed = true then -1 else IntKind.u32.max) (a : Int) = ((4294967295 - a : Nat) : Int) := by
  rw [show (if IntKind.u32.signed = true then -1 else IntKind.u32.max) = (4294967295 : Int) by decide, u32not ha]
theorem xor_lt {a b : Nat} (ha : a < M32) (hb : b < M32) : a ^^^ b < M32 := Nat.xor_lt_two_pow (n := 32) ha hb
theorem and_lt {a b : Nat} (ha : a < M32) : a &&& b < M32 := Nat.lt_of_le_of_lt Nat.and_le_left ha
theorem or_lt {a b : Nat} (ha : a < M32) (hb : b < M32) : a ||| b < M32 := Nat.or_lt_two_pow (n := 32) ha hb
theorem div_lt {a : Nat} (k : Nat) (ha : a < M32) : a / k < M32 := Nat.lt_of_le_of_lt (Nat.div_le_self _ _) ha
theorem mod_lt (a : Nat) : a % M32 < M32 := Nat.mod_lt _ (by decide)
theorem rotr_lt {x : Nat} (n : Nat) (h : x < M32) : rotr x n < M32 := or_lt (mod_lt _) (div_lt _ h)
theorem Rotate_ok (x n : Nat) (hx : x < M32) (h1 : 1 ≤ n) (h2 : n ≤ 31) : Calc cx 54 [.int .u32 x, .int .i64 (-(n : Int))] (.int .u32 (rotr x n)) :=
  pure_intro (fun a w => Tryd.call54 a w) Tryd.func54 rfl Tryd.ntmps54 rfl .int fun B => by
    have hw : IntKind.u64.wrap (-(n : Int)) = ((18446744073709551616 - n : Nat) : Int) := by
      rw [show IntKind.u64.wrap (-(n : Int)) = (-(n : Int)) % 18446744073709551616 by simp [IntKind.wrap, IntKind.signed, IntKind.bits]]; omega
    have hs : bitsA .and .u64 (IntKind.u64.wrap (-(n : Int))) 31 = ((32 - n : Nat) : Int) := by
      rw [hw, show (31 : Int) = ((31 : Nat) : Int) from rfl, bits_and (k := .u64) rfl (by show _ < 18446744073709551616; omega) (by decide)]
      rw [Nat.and_two_pow_sub_one_eq_mod _ 5]
      congr 1; omega
    have hd : IntKind.u64.wrap (32 - ((32 - n : Nat) : Int)) = (n : Int) := wu64 (by omega) (by omega)
    refine ab 1000 rfl ⟨?_, ?_, trivial⟩ ?_
    · rw [hs, hd]; omega
    · rw [hs]; omega
    refine S_retc .int rfl trivial ?_
    show AV.int .u32 (bitsA .or .u32 (IntKind.u32.wrap ((x : Int) * 2 ^ (min (bitsA .and .u64 (IntKind.u64.wrap (-(n : Int))) 31).toNat 32))) ((x : Int).fdiv (2 ^ (min (IntKind.u64.wrap (32 - bitsA .and .u64 (IntKind.u64.wrap (-(n : Int))) 31)).toNat 32)))) = _
    rw [hs, hd, Int.toNat_natCast, Int.toNat_natCast, Nat.min_eq_left (by omega), Nat.min_eq_left (by omega), shr_nat]
    rw [show (x : Int) * 2 ^ (32 - n) = ((x * 2 ^ (32 - n) : Nat) : Int) by rw [Int.natCast_mul, Int.natCast_pow]; rfl, wrap_low rfl]
    rw [show (2 : Nat) ^ IntKind.u32.bits = M32 from rfl, u32or (mod_lt _) (div_lt _ hx)]
    rfl
theorem u32L_len (l : List Nat) : (u32L l).length = l.length := by simp [u32L]
theorem u32L_get {l : List Nat} {i : Nat} (h : i < l.length) : (u32L l)[i]? = some (.int .u32 (l.getD i 0 : Nat)) := by
  simp [u32L, List.getD, h]
theorem u32L_ld {l : List Nat} {i : Nat} (h : i < l.length) : ((u32L l).drop i)[0]? = some (.int .u32 (l.getD i 0 : Nat)) := by
  rw [List.getElem?_drop, Nat.add_zero]; exact u32L_get h
theorem u32L_set (l : List Nat) (i n : Nat) : setRange (u32L l) i [.int .u32 (n : Nat)] = u32L (l.set i n) := by
  show (u32L l).set i _ = _
  simp [u32L, List.map_set]
end Go.Proofs.YtfpdfpdlekngfaaDoor
end
section
set_option linter.unusedVariables false
set_option linter.unusedSimpArgs false
set_option maxRecDepth 20000
namespace Go.Proofs.YtfpdfpdlekngfaaDoor
open Go Go.Ab
def W32 (l : List Nat) : Prop := ∀ x ∈ l, x < M32
theorem W32.getD {l : List Nat} (h : W32 l) (i : Nat) : l.getD i 0 < M32 := by
  rcases Nat.lt_or_ge i l.length with hi | hi
  · rw [show l.getD i 0 = l[i] by simp [List.getD, hi]]; exact h _ (List.getElem_mem hi)
  · rw [show l.getD i 0 = 0 by simp [List.getD, hi]]; decide
theorem W32.app {a b : List Nat} (ha : W32 a) (hb : W32 b) : W32 (a ++ b) := by
  intro x hx; rcases List.mem_append.1 hx with h | h; exact ha x h; exact hb x h
theorem W32.one {a : Nat} (ha : a < M32) : W32 [a] := by intro x hx; simp at hx; subst hx; exact ha
def accW (p : List UInt8) (i : Nat) : Nat → Nat
  | 0 => 0
  | j + 1 => accW p i j * 256 + (p.getD (i + j) 0).toNat
theorem accW_lt (p : List UInt8) (i : Nat) : ∀ j, accW p i j < 256 ^ j
  | 0 => by simp [accW]
  | j + 1 => by
    have := accW_lt p i j
    have hb := (p.getD (i + j) 0).toNat_lt
    rw [accW, Nat.pow_succ]; omega
theorem words_len (p : List UInt8) : (words p).length = 16 := by simp [words]
theorem words_get (p : List UInt8) {t : Nat} (h : t < 16) : (words p)[t]'(by rw [words_len]; exact h) = accW p (4 * t) 4 := by
  simp [words, beW, accW]
theorem words_lt (p : List UInt8) : W32 (words p) := by
  intro x hx
  obtain ⟨t, ht, rfl⟩ := List.getElem_of_mem hx
  rw [words_len] at ht
  rw [words_get p ht]
  exact accW_lt p (4 * t) 4
theorem set_fill {α : Type} (a : List α) (n : Nat) (x y : α) (b : List α) : (a ++ y :: b).set a.length x = a ++ x :: b := by
  rw [List.set_append_right _ _ (Nat.le_refl _), Nat.sub_self]; rfl
theorem wNext_lt (w : List Nat) : wNext w < M32 := mod_lt _
theorem round_lt {v : List Nat} (k : Nat) (h : W32 v) : W32 (round v k) := by
  intro x hx
  simp only [round, List.mem_cons, List.not_mem_nil, or_false] at hx
  rcases hx with rfl | rfl | rfl | rfl | rfl | rfl | rfl | rfl <;> first | exact mod_lt _ | exact h.getD _
theorem addW_len (a b : List Nat) : (addW a b).length = 8 := by simp [addW]
theorem addW_lt (a b : List Nat) : W32 (addW a b) := by
  intro x hx
  obtain ⟨i, _, rfl⟩ := List.mem_map.1 hx
  exact mod_lt _
theorem block_lt (h : List Nat) (p : List UInt8) : W32 (block h p) := addW_lt _ _
theorem block_len (h : List Nat) (p : List UInt8) : (block h p).length = 8 := addW_len _ _
def sB (v : Nat) (h : List Nat) : Nat × Option Box := (v, some (.cells (u32L h) ⟨false, some 95⟩))
def wB (x : Nat) (w : List Nat) : Nat × Option Box := (x, some (.cells (u32L w) ⟨false, none⟩))
def bB (u : Nat) (bs : List UInt8) (g : Tag) : Nat × Option Box := (u, some (.cells (bs.map byteAV) g))
theorem bytes_ld {bs : List UInt8} {i : Nat} (h : i < bs.length) : ((bs.map byteAV).drop i)[0]? = some (byteAV (bs.getD i 0)) := by
  rw [List.getElem?_drop, Nat.add_zero, List.getElem?_map, List.getElem?_eq_getElem h]
  simp [List.getD, h]
end Go.Proofs.YtfpdfpdlekngfaaDoor
end
section
set_option linter.unusedVariables false
set_option linter.unusedSimpArgs false
set_option maxRecDepth 20000
namespace Go.Proofs.YtfpdfpdlekngfaaDoor
open Go Go.Ab
theorem kTab32 : W32 kTab := by
  show ∀ x ∈ kTab, x < M32
  decide +kernel
theorem addmods (a b c d e : Nat) : ((((a + b) % M32 + c) % M32 + d) % M32 + e) % M32 = (a + b + c + (d + e)) % M32 := by
  simp only [M32]; omega
set_option maxHeartbeats 8000000 in
theorem block_ok (v u a b off len : Nat) (fl : Bool) (h : List Nat) (bs : List UInt8) (g : Tag) (hh : h.length = 8) (hh2 : W32 h) (hlen : 64 ≤ len) (ho : off + len ≤ bs.length) (hbl : bs.length ≤ 4611686018427387904) :
    CallOk cx 49 [.ptr 0 v 0, .ms 1 u off len 1 fl] [sB v h, bB u bs g, (a, none), (b, none)]
      (fun o σ' => o = .ret (.tup []) ∧ σ' = [sB v (block h (bs.drop off)), bB u bs g, (a + 1, none), (b + 1, none)]) :=
  callOk_intro (fun a' w => Tryd.call49 a' w) Tryd.func49 rfl Tryd.ntmps49 rfl fun B => by
    obtain ⟨p, hp⟩ : ∃ p, p = bs.drop off := ⟨_, rfl⟩
    rw [← hp]
    have hpl : 64 ≤ p.length := by rw [hp, List.length_drop]; omega
    have hpg : ∀ i, i < 64 → bs.getD (off + i) 0 = p.getD i 0 := by
      intro i hi
      rw [hp]
      simp [List.getD]
    refine ab 1000 rfl trivial ?_
    refine S_while (α := Nat) (fun t => [(0, .ptr 0 v 0), (1, .ms 1 u off len 1 fl), (4, .ptr 2 (a + 1) 0), (21, .int .i64 t)]) (fun t => [sB v h, bB u bs g, wB (a + 1) ((words p).take t ++ List.replicate (64 - t) 0), (b, none)]) (fun t => t ≤ 16) (fun t => 16 - t) 0
      (Nat.zero_le _) (.cons rfl (.cons rfl (.cons rfl (.cons rfl (.nil _))))) rfl ?_
    intro t ht
    refine ab 1000 rfl trivial ?_
    refine S_dec rfl (fun hlt => ?_) (fun hlt => ?_)
    · have htl : t < 16 := by omega
      have hw4 : IntKind.i64.wrap (4 * (t : Int)) = ((4 * t : Nat) : Int) := w64 rfl (by omega)
      have hw8 : IntKind.i64.wrap (((4 * t : Nat) : Int) + 4) = ((4 * t + 4 : Nat) : Int) := w64 rfl (by omega)
      have hfill : (words p).take t ++ List.replicate (64 - t) 0 = (words p).take t ++ accW p (4 * t) 0 :: List.replicate (63 - t) 0 := by
        rw [show 64 - t = (63 - t) + 1 by omega, List.replicate_succ]; rfl
      have htk : ((words p).take t).length = t := by rw [List.length_take, words_len]; omega
      refine ab 1000 rfl ⟨rfl, by rw [hw4, hw8]; omega, by rw [hw4, hw8]; omega, by rw [hw4]; omega, trivial⟩ ?_
      refine S_while (α := Nat) (fun j => [(0, .ptr 0 v 0), (1, .ms 1 u off len 1 fl), (4, .ptr 2 (a + 1) 0), (5, .int .i64 t), (21, .int .i64 t), (30, .ms 1 u (off + 4 * t) 4 1 false), (31, .int .i64 4), (32, .int .i64 j)])
        (fun j => [sB v h, bB u bs g, wB (a + 1) ((words p).take t ++ accW p (4 * t) j :: List.replicate (63 - t) 0), (b, none)]) (fun j => j ≤ 4) (fun j => 4 - j) 0
        (Nat.zero_le _) (.cons rfl (.cons rfl (.cons rfl (.cons rfl (.cons rfl (.cons ?_ (.cons ?_ (.cons rfl (.nil _))))))))) (by rw [hfill]) ?_
      · show AV.ms 1 u (off + (IntKind.i64.wrap (4 * (t : Int))).toNat * 1) ((IntKind.i64.wrap (IntKind.i64.wrap (4 * (t : Int)) + 4)).toNat - (IntKind.i64.wrap (4 * (t : Int))).toNat) 1 false = _
        rw [hw4, hw8, Int.toNat_natCast, Int.toNat_natCast, Nat.mul_one, show 4 * t + 4 - 4 * t = 4 by omega]
      · show AV.int .i64 (((IntKind.i64.wrap (IntKind.i64.wrap (4 * (t : Int)) + 4)).toNat - (IntKind.i64.wrap (4 * (t : Int))).toNat : Nat) : Int) = _
        rw [hw4, hw8, Int.toNat_natCast, Int.toNat_natCast, show 4 * t + 4 - 4 * t = 4 by omega]; rfl
      intro j hj
      refine ab 1000 rfl trivial ?_
      refine S_dec rfl (fun hlt => ?_) (fun hlt => ?_)
      · have hj4 : j < 4 := by omega
        have hacc := accW_lt p (4 * t) j
        have hap : 256 ^ j ≤ 256 ^ 3 := Nat.pow_le_pow_right (by decide) (by omega)
        refine ab 1000 rfl trivial ?_
        refine S_index .top rfl rfl rfl ⟨rfl, by omega, by omega, trivial⟩ ?_
        refine S_load (byteAV (p.getD (4 * t + j) 0)) rfl rfl rfl ⟨rfl, ?_, trivial⟩ ?_
        · show ((bs.map byteAV).drop (offN (off + 4 * t) (mulN (j : Int).toNat 1)))[0]? = _
          rw [offN_eq, mulN_eq, Int.toNat_natCast, Nat.mul_one, Nat.add_assoc, bytes_ld (by omega), hpg _ (by omega)]
        refine ab 1000 rfl trivial ?_
        refine S_index .top rfl rfl rfl ⟨by omega, by omega, trivial⟩ ?_
        have hwl : ((words p).take t ++ accW p (4 * t) j :: List.replicate (63 - t) 0).length = 64 := by
          rw [List.length_append, htk, List.length_cons, List.length_replicate]; omega
        have hwg : ((words p).take t ++ accW p (4 * t) j :: List.replicate (63 - t) 0).getD t 0 = accW p (4 * t) j := by
          rw [List.getD, List.getElem?_append_right (by omega), htk, Nat.sub_self]; rfl
        refine S_load (.int .u32 (accW p (4 * t) j : Nat)) rfl rfl rfl ⟨rfl, ?_, trivial⟩ ?_
        · show ((u32L ((words p).take t ++ accW p (4 * t) j :: List.replicate (63 - t) 0)).drop (mulN (t : Int).toNat 1))[0]? = _
          rw [mulN_eq, Int.toNat_natCast, Nat.mul_one, u32L_ld (by omega), hwg]
        refine ab 1000 rfl ⟨by decide, trivial⟩ ?_
        refine S_index .top rfl rfl rfl ⟨by omega, by omega, trivial⟩ ?_
        refine S_store rfl rfl rfl ⟨rfl, rfl, rfl, ?_, trivial⟩ ?_
        · show mulN (t : Int).toNat 1 + 1 ≤ (u32L _).length
          rw [mulN_eq, Int.toNat_natCast, Nat.mul_one, u32L_len]; omega
        have hc := (p.getD (4 * t + j) 0).toNat_lt
        have hval : AV.int .u32 (bitsA .or .u32 (IntKind.u32.wrap ((accW p (4 * t) j : Nat) * 2 ^ (min (8 : Int).toNat 32))) (IntKind.u32.wrap (((p.getD (4 * t + j) 0).toNat : Nat) : Int))) = .int .u32 (accW p (4 * t) (j + 1) : Nat) := by
          rw [show ((accW p (4 * t) j : Nat) : Int) * 2 ^ (min (8 : Int).toNat 32) = ((accW p (4 * t) j * 2 ^ 8 : Nat) : Int) from rfl]
          rw [wu32 (x := ((accW p (4 * t) j * 2 ^ 8 : Nat) : Int)) (k := accW p (4 * t) j * 2 ^ 8) rfl (by omega), wu32 (x := (((p.getD (4 * t + j) 0).toNat : Nat) : Int)) (k := (p.getD (4 * t + j) 0).toNat) rfl (by omega)]
          rw [u32or (by show _ < 4294967296; omega) (by show _ < 4294967296; omega)]
          have := Nat.two_pow_add_eq_or_of_lt (i := 8) (b := (p.getD (4 * t + j) 0).toNat) (by omega) (accW p (4 * t) j)
          rw [Nat.mul_comm] at this
          rw [← this]
          simp [accW]
        refine S_heap [sB v h, bB u bs g, wB (a + 1) ((words p).take t ++ accW p (4 * t) (j + 1) :: List.replicate (63 - t) 0), (b, none)] ?_ ?_
        · show [_, _, (a + 1, some (Box.cells (setRange (u32L ((words p).take t ++ accW p (4 * t) j :: List.replicate (63 - t) 0)) (mulN (t : Int).toNat 1) [AV.int .u32 (bitsA .or .u32 (IntKind.u32.wrap ((accW p (4 * t) j : Nat) * 2 ^ (min (8 : Int).toNat 32))) (IntKind.u32.wrap (((p.getD (4 * t + j) 0).toNat : Nat) : Int)))]) _)), _] = _
          rw [hval, mulN_eq, Int.toNat_natCast, Nat.mul_one, u32L_set]
          have := set_fill ((words p).take t) 0 (accW p (4 * t) (j + 1)) (accW p (4 * t) j) (List.replicate (63 - t) 0)
          rw [htk] at this
          rw [this]; rfl
        refine ab 1000 rfl trivial ?_
        exact S_round (j + 1) (by show 4 - (j + 1) < 4 - j; omega) hj4 (.cons rfl (.cons rfl (.cons rfl (.cons rfl (.cons rfl (.cons rfl (.cons rfl (.cons (ai64 rfl (by omega)) (.nil _))))))))) rfl
      · have hj4 : j = 4 := by omega
        subst hj4
        refine ab 1000 rfl trivial ?_
        refine S_round (t + 1) (by show 16 - (t + 1) < 16 - t; omega) htl (.cons rfl (.cons rfl (.cons rfl (.cons (ai64 rfl (by omega)) (.nil _))))) ?_
        show [_, _, wB (a + 1) ((words p).take t ++ accW p (4 * t) 4 :: List.replicate (63 - t) 0), _] = [_, _, wB (a + 1) ((words p).take (t + 1) ++ List.replicate (64 - (t + 1)) 0), _]
        have hwt : (words p).take (t + 1) = (words p).take t ++ [accW p (4 * t) 4] := by
          rw [List.take_succ_eq_append_getElem (by rw [words_len]; exact htl), words_get p htl]
        rw [hwt, show 64 - (t + 1) = 63 - t by omega, List.append_assoc]; rfl
    · have ht16 : t = 16 := by omega
      subst ht16
      refine ab 1000 rfl trivial ?_
      refine S_while (α := List Nat) (fun w => [(0, .ptr 0 v 0), (4, .ptr 2 (a + 1) 0), (8, .int .i64 w.length)]) (fun w => [sB v h, bB u bs g, wB (a + 1) (w ++ List.replicate (64 - w.length) 0), (b, none)]) (fun w => 16 ≤ w.length ∧ w.length ≤ 64 ∧ W32 w ∧ sched (64 - w.length) w = schedOf p) (fun w => 64 - w.length) (words p)
        ⟨by rw [words_len]; exact Nat.le_refl _, by rw [words_len]; decide, words_lt p, by rw [words_len]; rfl⟩ (.cons rfl (.cons rfl (.cons (by rw [words_len]; rfl) (.nil _)))) (by rw [words_len, List.take_of_length_le (by rw [words_len]; exact Nat.le_refl _)]) ?_
      rintro w ⟨hw1, hw2, hw3, hw4⟩
      refine ab 1000 rfl trivial ?_
      refine S_dec rfl (fun hlt => ?_) (fun hlt => ?_)
      · have htl : w.length < 64 := by omega
        obtain ⟨t, htd⟩ : ∃ t, t = w.length := ⟨_, rfl⟩
        have hLl : (w ++ List.replicate (64 - w.length) 0).length = 64 := by rw [List.length_append, List.length_replicate]; omega
        have hLg : ∀ i, i < w.length → (w ++ List.replicate (64 - w.length) 0).getD i 0 = w.getD i 0 := by
          intro i hi
          rw [List.getD, List.getElem?_append_left hi]; rfl
        have ld : ∀ i, i < w.length → ((u32L (w ++ List.replicate (64 - w.length) 0)).drop i)[0]? = some (.int .u32 (w.getD i 0 : Nat)) := by
          intro i hi
          rw [u32L_ld (by omega), hLg i hi]
        have hw15 : IntKind.i64.wrap ((w.length : Int) - 15) = ((w.length - 15 : Nat) : Int) := w64 (by omega) (by omega)
        have hw2' : IntKind.i64.wrap ((w.length : Int) - 2) = ((w.length - 2 : Nat) : Int) := w64 (by omega) (by omega)
        have hw16 : IntKind.i64.wrap ((w.length : Int) - 16) = ((w.length - 16 : Nat) : Int) := w64 (by omega) (by omega)
        have hw7 : IntKind.i64.wrap ((w.length : Int) - 7) = ((w.length - 7 : Nat) : Int) := w64 (by omega) (by omega)
        have hx := hw3.getD (w.length - 15)
        have hy := hw3.getD (w.length - 2)
        obtain ⟨x, hxd⟩ : ∃ x, x = w.getD (w.length - 15) 0 := ⟨_, rfl⟩
        obtain ⟨y, hyd⟩ : ∃ y, y = w.getD (w.length - 2) 0 := ⟨_, rfl⟩
        rw [← hxd] at hx
        rw [← hyd] at hy
        refine ab 1000 rfl trivial ?_
        refine S_draw 9 [] [.top, .int .u32 (x : Nat), .top, .int .u32 (y : Nat)] rfl rfl rfl rfl ⟨rfl, rfl, by rw [hw15]; omega, by rw [hw15]; omega, rfl, ?_, rfl, rfl, by rw [hw2']; omega, by rw [hw2']; omega, rfl, ?_, rfl, trivial⟩ ?_
        · show ((u32L (w ++ List.replicate (64 - w.length) 0)).drop (mulN (IntKind.i64.wrap ((w.length : Int) - 15)).toNat 1))[0]? = _
          rw [mulN_eq, hw15, Int.toNat_natCast, Nat.mul_one, ld _ (by omega), ← hxd]
        · show ((u32L (w ++ List.replicate (64 - w.length) 0)).drop (mulN (IntKind.i64.wrap ((w.length : Int) - 2)).toNat 1))[0]? = _
          rw [mulN_eq, hw2', Int.toNat_natCast, Nat.mul_one, ld _ (by omega), ← hyd]
        refine ab 1000 rfl trivial ?_
        refine S_pure rfl rfl rfl (Rotate_ok x 7 hx (by decide) (by decide)) (.cons (.refl .int) (.cons (.refl .int) (.nil _))) ?_
        refine ab 1000 rfl trivial ?_
        refine S_pure rfl rfl rfl (Rotate_ok x 18 hx (by decide) (by decide)) (.cons (.refl .int) (.cons (.refl .int) (.nil _))) ?_
        refine ab 1000 rfl ⟨by decide, trivial⟩ ?_
        refine S_pure rfl rfl rfl (Rotate_ok y 17 hy (by decide) (by decide)) (.cons (.refl .int) (.cons (.refl .int) (.nil _))) ?_
        refine ab 1000 rfl trivial ?_
        refine S_pure rfl rfl rfl (Rotate_ok y 19 hy (by decide) (by decide)) (.cons (.refl .int) (.cons (.refl .int) (.nil _))) ?_
        refine ab 1000 rfl ⟨by decide, trivial⟩ ?_
        refine S_weak (fr' := [(0, .ptr 0 v 0), (4, .ptr 2 (a + 1) 0), (8, .int .i64 w.length), (11, .int .u32 (sig0 x : Nat)), (12, .int .u32 (sig1 y : Nat))]) (.cons rfl (.cons rfl (.cons rfl (.cons ?_ (.cons ?_ (.nil _)))))) ?_
        · show AV.int .u32 (bitsA .xor .u32 (bitsA .xor .u32 (rotr x 7 : Nat) (rotr x 18 : Nat)) ((x : Int).fdiv (2 ^ 3))) = _
          rw [u32xor (rotr_lt _ hx) (rotr_lt _ hx), shr_nat, u32xor (xor_lt (rotr_lt _ hx) (rotr_lt _ hx)) (div_lt _ hx)]; rfl
        · show AV.int .u32 (bitsA .xor .u32 (bitsA .xor .u32 (rotr y 17 : Nat) (rotr y 19 : Nat)) ((y : Int).fdiv (2 ^ 10))) = _
          rw [u32xor (rotr_lt _ hy) (rotr_lt _ hy), shr_nat, u32xor (xor_lt (rotr_lt _ hy) (rotr_lt _ hy)) (div_lt _ hy)]; rfl
        refine S_draw 15 [] [.top, .int .u32 (w.getD (w.length - 16) 0 : Nat), .top, .int .u32 (w.getD (w.length - 7) 0 : Nat), .top] rfl rfl rfl rfl
          ⟨rfl, rfl, rfl, by rw [hw16]; omega, by rw [hw16]; omega, rfl, ?_, rfl, rfl, rfl, rfl, by rw [hw7]; omega, by rw [hw7]; omega, rfl, ?_, rfl, rfl, rfl, by omega, by omega, trivial⟩ ?_
        · show ((u32L (w ++ List.replicate (64 - w.length) 0)).drop (mulN (IntKind.i64.wrap ((w.length : Int) - 16)).toNat 1))[0]? = _
          rw [mulN_eq, hw16, Int.toNat_natCast, Nat.mul_one, ld _ (by omega)]
        · show ((u32L (w ++ List.replicate (64 - w.length) 0)).drop (mulN (IntKind.i64.wrap ((w.length : Int) - 7)).toNat 1))[0]? = _
          rw [mulN_eq, hw7, Int.toNat_natCast, Nat.mul_one, ld _ (by omega)]
        refine S_store rfl rfl rfl ⟨rfl, rfl, rfl, ?_, trivial⟩ ?_
        · show mulN (w.length : Int).toNat 1 + 1 ≤ (u32L _).length
          rw [mulN_eq, Int.toNat_natCast, Nat.mul_one, u32L_len]; omega
        have hval : AV.int .u32 (IntKind.u32.wrap (IntKind.u32.wrap (IntKind.u32.wrap ((w.getD (w.length - 16) 0 : Nat) + (sig0 x : Nat)) + (w.getD (w.length - 7) 0 : Nat)) + (sig1 y : Nat))) = .int .u32 (wNext w : Nat) := by
          rw [u32add, u32add, u32add, wNext, ← hxd, ← hyd]
          congr 2
          simp only [M32]; omega
        refine S_heap [sB v h, bB u bs g, wB (a + 1) ((w ++ [wNext w]) ++ List.replicate (64 - (w ++ [wNext w]).length) 0), (b, none)] ?_ ?_
        · show [_, _, (a + 1, some (Box.cells (setRange (u32L (w ++ List.replicate (64 - w.length) 0)) (mulN (w.length : Int).toNat 1) [AV.int .u32 (IntKind.u32.wrap (IntKind.u32.wrap (IntKind.u32.wrap ((w.getD (w.length - 16) 0 : Nat) + (sig0 x : Nat)) + (w.getD (w.length - 7) 0 : Nat)) + (sig1 y : Nat)))]) _)), _] = _
          rw [hval, mulN_eq, Int.toNat_natCast, Nat.mul_one, u32L_set]
          have hrep : List.replicate (64 - w.length) 0 = 0 :: List.replicate (63 - w.length) 0 := by
            rw [show 64 - w.length = (63 - w.length) + 1 by omega, List.replicate_succ]
          rw [hrep, set_fill w 0 (wNext w) 0 (List.replicate (63 - w.length) 0)]
          rw [show 64 - (w ++ [wNext w]).length = 63 - w.length by simp, List.append_assoc]; rfl
        refine ab 1000 rfl trivial ?_
        refine S_round (w ++ [wNext w]) (by show 64 - (w ++ [wNext w]).length < 64 - w.length; simp; omega) ⟨by simp; omega, by simp; omega, hw3.app (.one (wNext_lt w)), ?_⟩ (.cons rfl (.cons rfl (.cons ?_ (.nil _)))) rfl
        · rw [← hw4, show 64 - w.length = (64 - (w ++ [wNext w]).length) + 1 by simp; omega, sched]
        · show AV.int .i64 (IntKind.i64.wrap ((w.length : Int) + 1)) = _
          exact ai64 (by simp) (by simp; omega)
      · have hwl : w.length = 64 := by omega
        have hws : w = schedOf p := by rw [← hw4, hwl]; rfl
        have hWl : (schedOf p).length = 64 := by rw [← hws, hwl]
        have hW32 : W32 (schedOf p) := by rw [← hws]; exact hw3
        obtain ⟨h0, h1, h2, h3, h4, h5, h6, h7, hhe⟩ : ∃ h0 h1 h2 h3 h4 h5 h6 h7, h = [h0, h1, h2, h3, h4, h5, h6, h7] := by
          match h, hh with
          | [h0, h1, h2, h3, h4, h5, h6, h7], _ => exact ⟨_, _, _, _, _, _, _, _, rfl⟩
        refine S_heap [sB v [h0, h1, h2, h3, h4, h5, h6, h7], bB u bs g, wB (a + 1) (schedOf p), (b, none)] (by
          show [sB v h, bB u bs g, wB (a + 1) (w ++ List.replicate (64 - w.length) 0), (b, none)] = _
          rw [hwl, hws, hhe]; simp) ?_
        refine ab 1000 rfl ⟨lble rfl, rfl, rfl, trivial⟩ ?_
        refine S_while (α := Nat × List Nat) (fun (t, _) => [(0, .ptr 0 v 0), (4, .ptr 2 (a + 1) 0), (13, .ptr 3 (b + 1) 0), (94, .int .i64 t)]) (fun (t, vv) => [sB v [h0, h1, h2, h3, h4, h5, h6, h7], bB u bs g, wB (a + 1) (schedOf p), wB (b + 1) vv])
          (fun (t, vv) => t ≤ 64 ∧ vv.length = 8 ∧ W32 vv ∧ rounds (64 - t) t (schedOf p) vv = rounds 64 0 (schedOf p) h) (fun (t, _) => 64 - t) (0, [h0, h1, h2, h3, h4, h5, h6, h7])
          ⟨Nat.zero_le _, rfl, by rw [← hhe]; exact hh2, by rw [← hhe]⟩ (.cons rfl (.cons rfl (.cons rfl (.cons rfl (.nil _))))) rfl ?_
        rintro ⟨t, vv⟩ ⟨ht, hvl, hv32, hN⟩
        obtain ⟨v0, v1, v2, v3, v4, v5, v6, v7, rfl⟩ : ∃ v0 v1 v2 v3 v4 v5 v6 v7, vv = [v0, v1, v2, v3, v4, v5, v6, v7] := by
          match vv, hvl with
          | [v0, v1, v2, v3, v4, v5, v6, v7], _ => exact ⟨_, _, _, _, _, _, _, _, rfl⟩
        have b0 : v0 < M32 := hv32 _ (by simp)
        have b1 : v1 < M32 := hv32 _ (by simp)
        have b2 : v2 < M32 := hv32 _ (by simp)
        have b3 : v3 < M32 := hv32 _ (by simp)
        have b4 : v4 < M32 := hv32 _ (by simp)
        have b5 : v5 < M32 := hv32 _ (by simp)
        have b6 : v6 < M32 := hv32 _ (by simp)
        have b7 : v7 < M32 := hv32 _ (by simp)
        refine ab 1000 rfl trivial ?_
        refine S_dec rfl (fun hlt => ?_) (fun hlt => ?_)
        · have htl : t < 64 := by omega
          refine ab 1000 rfl trivial ?_
          refine S_draw 5 [] [.top, .int .u32 (v0 : Nat), .top, .int .u32 (v4 : Nat)] rfl rfl rfl rfl ⟨by decide, by decide, rfl, rfl, by decide, by decide, rfl, rfl, rfl, trivial⟩ ?_
          refine ab 1000 rfl trivial ?_
          have hkg : (u32L kTab)[t]? = some (.int .u32 (kTab.getD t 0 : Nat)) := u32L_get (by show t < 64; exact htl)
          have hrot : ∀ (x n : Nat), x < M32 → 1 ≤ n → n ≤ 31 → ∀ σ, ∃ args', Calc cx 54 args' (.int .u32 (rotr x n)) ∧ Frzs σ [.int .u32 x, .int .i64 (-(n : Int))] args' :=
            fun x n hx h1 h2 σ => ⟨_, Rotate_ok x n hx h1 h2, .cons (.refl .int) (.cons (.refl .int) (.nil _))⟩
          refine S_draw 30 [] [.top, .int .u32 (v7 : Nat), .int .u32 (rotr v4 6 : Nat), .int .u32 (rotr v4 11 : Nat), .int .u32 (rotr v4 25 : Nat), .top, .int .u32 (v5 : Nat), .top, .int .u32 (v6 : Nat), .int .u32 (kTab.getD t 0 : Nat), .top, .int .u32 ((schedOf p).getD t 0 : Nat)] rfl rfl rfl rfl
            ⟨by decide, by decide, rfl, rfl, rfl, hrot v4 6 b4 (by decide) (by decide) _, rfl, hrot v4 11 b4 (by decide) (by decide) _, rfl, rfl, hrot v4 25 b4 (by decide) (by decide) _, rfl, rfl, rfl, by decide, by decide, rfl, rfl, rfl, rfl, rfl, by decide, by decide, rfl, rfl, rfl, rfl, rfl, rfl,
              by omega, by omega, ?_, rfl, rfl, rfl, by omega, by omega, rfl, ?_, rfl, trivial⟩ ?_
          · show ((u32L kTab).drop ((t : Int).toNat * 1)).take 1 = [.int .u32 (kTab.getD t 0 : Nat)]
            rw [Int.toNat_natCast, Nat.mul_one]
            have hlk : t < (u32L kTab).length := by show t < 64; exact htl
            rw [List.drop_eq_getElem_cons hlk, List.take_succ_cons, List.take_zero]
            rw [List.getElem?_eq_getElem hlk] at hkg
            simp only [Option.some.injEq] at hkg
            rw [hkg]
          · show ((u32L (schedOf p)).drop (mulN (t : Int).toNat 1))[0]? = _
            rw [mulN_eq, Int.toNat_natCast, Nat.mul_one, u32L_ld (by omega)]
          refine ab 1000 rfl trivial ?_
          refine S_draw 24 [] [.int .u32 (rotr v0 2 : Nat), .int .u32 (rotr v0 13 : Nat), .int .u32 (rotr v0 22 : Nat), .top, .int .u32 (v1 : Nat), .top, .int .u32 (v2 : Nat), .top, .int .u32 (v1 : Nat), .top, .int .u32 (v2 : Nat)] rfl rfl rfl rfl
            ⟨rfl, hrot v0 2 b0 (by decide) (by decide) _, rfl, hrot v0 13 b0 (by decide) (by decide) _, rfl, rfl, hrot v0 22 b0 (by decide) (by decide) _, rfl, rfl, by decide, by decide, rfl, rfl, rfl, rfl, by decide, by decide, rfl, rfl, rfl, rfl, by decide, by decide, rfl, rfl, by decide, by decide, rfl, rfl, rfl, rfl, rfl, trivial⟩ ?_
          refine ab 1000 rfl trivial ?_
          have hk32 : kTab.getD t 0 < M32 := kTab32.getD t
          have hw32 := hW32.getD t
          obtain ⟨U, hU⟩ : ∃ U, U = (v7 + Sig1 v4 + ((v4 &&& v5) ^^^ ((4294967295 - v4) &&& v6)) + (kTab.getD t 0 + (schedOf p).getD t 0)) % M32 := ⟨_, rfl⟩
          obtain ⟨X, hX⟩ : ∃ X, X = (Sig0 v0 + ((v0 &&& v1) ^^^ (v0 &&& v2) ^^^ (v1 &&& v2))) % M32 := ⟨_, rfl⟩
          have hround : round [v0, v1, v2, v3, v4, v5, v6, v7] (kTab.getD t 0 + (schedOf p).getD t 0) = [(U + X) % M32, v0, v1, v2, (v3 + U) % M32, v4, v5, v6] := by
            rw [hU, hX]; rfl
          refine S_weak (fr' := [(0, .ptr 0 v 0), (4, .ptr 2 (a + 1) 0), (13, .ptr 3 (b + 1) 0), (94, .int .i64 t), (17, .int .u32 (U : Nat)), (18, .int .u32 (X : Nat))]) (.cons rfl (.cons rfl (.cons rfl (.cons rfl (.cons ?_ (.cons ?_ (.nil _))))))) ?_
          · show AV.int .u32 (IntKind.u32.wrap (IntKind.u32.wrap (IntKind.u32.wrap (IntKind.u32.wrap ((v7 : Nat) + bitsA .xor .u32 (bitsA .xor .u32 (rotr v4 6 : Nat) (rotr v4 11 : Nat)) (rotr v4 25 : Nat)) + bitsA .xor .u32 (bitsA .and .u32 (v4 : Nat) (v5 : Nat)) (bitsA .and .u32 (bitsA .xor .u32 (if IntKind.u32.signed = true then -1 else IntKind.u32.max) (v4 : Nat)) (v6 : Nat))) + (kTab.getD t 0 : Nat)) + ((schedOf p).getD t 0 : Nat))) = _
            rw [u32xor (rotr_lt _ b4) (rotr_lt _ b4), u32xor (xor_lt (rotr_lt _ b4) (rotr_lt _ b4)) (rotr_lt _ b4), u32not' b4, u32and b4 b5, u32and (by show _ < 4294967296; omega) b6, u32xor (and_lt b4) (and_lt (by show _ < 4294967296; omega))]
            rw [u32add, u32add, u32add, u32add, hU]
            exact congrArg (fun z : Nat => AV.int .u32 (z : Int)) (addmods v7 (Sig1 v4) _ _ _)
          · show AV.int .u32 (IntKind.u32.wrap (bitsA .xor .u32 (bitsA .xor .u32 (rotr v0 2 : Nat) (rotr v0 13 : Nat)) (rotr v0 22 : Nat) + bitsA .xor .u32 (bitsA .xor .u32 (bitsA .and .u32 (v0 : Nat) (v1 : Nat)) (bitsA .and .u32 (v0 : Nat) (v2 : Nat))) (bitsA .and .u32 (v1 : Nat) (v2 : Nat)))) = _
            rw [u32xor (rotr_lt _ b0) (rotr_lt _ b0), u32xor (xor_lt (rotr_lt _ b0) (rotr_lt _ b0)) (rotr_lt _ b0), u32and b0 b1, u32and b0 b2, u32and b1 b2, u32xor (and_lt b0) (and_lt b0), u32xor (xor_lt (and_lt b0) (and_lt b0)) (and_lt b1), u32add, hX]
            exact congrArg (fun z : Nat => AV.int .u32 (((z + _) % M32 : Nat) : Int)) (show rotr v0 2 ^^^ rotr v0 13 ^^^ rotr v0 22 = Sig0 v0 from rfl)
          refine S_draw 2 [] [] rfl rfl rfl rfl ⟨rfl, by decide, by decide, rfl, lble rfl, by decide, rfl, by decide, by decide, rfl, lble rfl, by decide, trivial⟩ ?_
          refine ab 1000 rfl ⟨by decide, by decide, lble rfl, lble rfl, rfl, rfl, allOne_mem (cs := [_, _, _, _, _, _, _]) rfl, lble rfl, rfl, rfl, trivial⟩ ?_
          refine S_index .top rfl rfl rfl ⟨by decide, by decide, trivial⟩ ?_
          refine S_load (.int .u32 (v3 : Nat)) rfl rfl rfl ⟨rfl, rfl, trivial⟩ ?_
          refine ab 1000 rfl trivial ?_
          refine S_index .top rfl rfl rfl ⟨by decide, by decide, trivial⟩ ?_
          refine S_store rfl rfl rfl ⟨rfl, rfl, rfl, lble rfl, trivial⟩ ?_
          refine ab 1000 rfl trivial ?_
          refine S_index .top rfl rfl rfl ⟨by decide, by decide, trivial⟩ ?_
          refine S_store rfl rfl rfl ⟨rfl, rfl, rfl, lble rfl, trivial⟩ ?_
          refine S_heap [sB v [h0, h1, h2, h3, h4, h5, h6, h7], bB u bs g, wB (a + 1) (schedOf p), wB (b + 1) [(U + X) % M32, v0, v1, v2, (v3 + U) % M32, v4, v5, v6]] ?_ ?_
          · show [_, _, _, (b + 1, some (Box.cells [AV.int .u32 (IntKind.u32.wrap ((U : Nat) + (X : Nat))), .int .u32 v0, .int .u32 v1, .int .u32 v2, AV.int .u32 (IntKind.u32.wrap ((v3 : Nat) + (U : Nat))), .int .u32 v4, .int .u32 v5, .int .u32 v6] _))] = _
            rw [u32add, u32add]; rfl
          refine ab 1000 rfl trivial ?_
          refine S_round (t + 1, [(U + X) % M32, v0, v1, v2, (v3 + U) % M32, v4, v5, v6]) (by show 64 - (t + 1) < 64 - t; omega) ⟨htl, rfl, by rw [← hround]; exact round_lt _ hv32, ?_⟩ (.cons rfl (.cons rfl (.cons rfl (.cons (ai64 rfl (by omega)) (.nil _))))) rfl
          rw [← hN, show 64 - t = (64 - (t + 1)) + 1 by omega, rounds, hround]
        · have ht64 : t = 64 := by omega
          subst ht64
          have hVe : rounds 64 0 (schedOf p) h = [v0, v1, v2, v3, v4, v5, v6, v7] := hN.symm
          have hblk : block h p = addW h [v0, v1, v2, v3, v4, v5, v6, v7] := by rw [block, hVe]
          rw [hblk, hhe]
          refine ab 1000 rfl ⟨rfl, trivial⟩ ?_
          refine S_while (α := Nat) (fun i => [(0, .ptr 0 v 0), (168, .agg (u32L [v0, v1, v2, v3, v4, v5, v6, v7])), (169, .int .i64 i)])
            (fun i => [sB v ((addW [h0, h1, h2, h3, h4, h5, h6, h7] [v0, v1, v2, v3, v4, v5, v6, v7]).take i ++ [h0, h1, h2, h3, h4, h5, h6, h7].drop i), bB u bs g, wB (a + 1) (schedOf p), wB (b + 1) [v0, v1, v2, v3, v4, v5, v6, v7]]) (fun i => i ≤ 8) (fun i => 8 - i) 0
            (Nat.zero_le _) (.cons rfl (.cons rfl (.cons rfl (.nil _)))) rfl ?_
          intro i hi
          generalize hHd : [h0, h1, h2, h3, h4, h5, h6, h7] = hl at *
          generalize hVd : [v0, v1, v2, v3, v4, v5, v6, v7] = vl at *
          have hhl : hl.length = 8 := by rw [← hHd]; rfl
          have hvl' : vl.length = 8 := by rw [← hVd]; rfl
          have hal := addW_len hl vl
          refine ab 1000 rfl trivial ?_
          refine S_dec rfl (fun hlt => ?_) (fun hlt => ?_)
          · have hil : i < 8 := by omega
            have htk : ((addW hl vl).take i).length = i := by rw [List.length_take, hal]; omega
            have hdr : hl.drop i = hl.getD i 0 :: hl.drop (i + 1) := by
              rw [List.drop_eq_getElem_cons (by omega)]
              simp [List.getD, show i < hl.length by omega]
            have hcl : ((addW hl vl).take i ++ hl.drop i).length = 8 := by rw [List.length_append, htk, List.length_drop]; omega
            have hcg : ((addW hl vl).take i ++ hl.drop i).getD i 0 = hl.getD i 0 := by
              rw [List.getD, List.getElem?_append_right (by omega), htk, Nat.sub_self, hdr]; rfl
            refine ab 1000 rfl trivial ?_
            refine S_elem (.int .u32 (vl.getD i 0 : Nat)) rfl rfl rfl ⟨by omega, by omega, rfl, by rw [Int.toNat_natCast]; exact u32L_get (by omega), trivial⟩ ?_
            refine ab 1000 rfl trivial ?_
            refine S_draw 11 [] [.top, .int .u32 (hl.getD i 0 : Nat), .top] rfl rfl rfl rfl ⟨rfl, rfl, rfl, rfl, by omega, by omega, rfl, ?_, rfl, rfl, rfl, rfl, by omega, by omega, trivial⟩ ?_
            · show ((u32L ((addW hl vl).take i ++ hl.drop i)).drop (mulN (i : Int).toNat 1))[0]? = _
              rw [mulN_eq, Int.toNat_natCast, Nat.mul_one, u32L_ld (by omega), hcg]
            refine S_store rfl rfl rfl ⟨rfl, rfl, rfl, ?_, trivial⟩ ?_
            · show mulN (i : Int).toNat 1 + 1 ≤ (u32L _).length
              rw [mulN_eq, Int.toNat_natCast, Nat.mul_one, u32L_len]; omega
            refine S_heap [sB v ((addW hl vl).take (i + 1) ++ hl.drop (i + 1)), bB u bs g, wB (a + 1) (schedOf p), wB (b + 1) vl] ?_ ?_
            · show [(v, some (Box.cells (setRange (u32L ((addW hl vl).take i ++ hl.drop i)) (mulN (i : Int).toNat 1) [AV.int .u32 (IntKind.u32.wrap ((hl.getD i 0 : Nat) + (vl.getD i 0 : Nat)))]) _)), _, _, _] = _
              rw [u32add, mulN_eq, Int.toNat_natCast, Nat.mul_one, u32L_set, hdr]
              have hsf := set_fill ((addW hl vl).take i) 0 ((hl.getD i 0 + vl.getD i 0) % M32) (hl.getD i 0) (hl.drop (i + 1))
              rw [htk] at hsf
              rw [hsf]
              have hta : (addW hl vl).take (i + 1) = (addW hl vl).take i ++ [(hl.getD i 0 + vl.getD i 0) % M32] := by
                rw [List.take_succ_eq_append_getElem (by omega)]
                simp [addW]
              rw [hta, List.append_assoc]; rfl
            refine ab 1000 rfl trivial ?_
            exact S_round (i + 1) (by show 8 - (i + 1) < 8 - i; omega) hil (.cons rfl (.cons rfl (.cons (ai64 rfl (by omega)) (.nil _)))) rfl
          · have hi8 : i = 8 := by omega
            subst hi8
            refine S_drop (id := 2) rfl ?_ ⟨_, _, .inl rfl⟩
            refine S_drop (id := 3) rfl ?_ ⟨_, _, .inl rfl⟩
            refine ab 1000 rfl trivial ?_
            refine S_nil ⟨_, _, rfl, trivial, rfl, ?_⟩
            show [sB v ((addW hl vl).take 8 ++ hl.drop 8), _, _, _] = _
            rw [List.take_of_length_le (by omega), List.drop_of_length_le (by omega), List.append_nil]
end Go.Proofs.YtfpdfpdlekngfaaDoor
end
section
set_option linter.unusedVariables false
set_option linter.unusedSimpArgs false
set_option maxRecDepth 20000
namespace Go.Proofs.YtfpdfpdlekngfaaDoor
open Go Go.Ab
def hexB (c : UInt8) : Bool := (48 ≤ c.toNat && c.toNat ≤ 57) || (97 ≤ c.toNat && c.toNat ≤ 102)
def isDig (s : List UInt8) : Bool := s.all hexB && s.length == 64
theorem take_all {p : UInt8 → Bool} {s : List UInt8} {i : Nat} (h : i < s.length) (ha : (s.take i).all p = true) (hp : p s[i] = true) : (s.take (i + 1)).all p = true := by
  rw [List.take_succ_eq_append_getElem h, List.all_append, ha]
  simp [hp]
theorem all_false {p : UInt8 → Bool} {s : List UInt8} {i : Nat} (h : i < s.length) (hp : p s[i] = false) : s.all p = false := by
  rw [List.all_eq_false]
  exact ⟨s[i], List.getElem_mem h, by simp [hp]⟩
theorem digestIs_ok (s : List UInt8) (hs : s.length ≤ 9223372036854775807) : Calc cx 48 [.str s] (.bool (isDig s)) :=
  pure_intro (fun a w => Tryd.call48 a w) Tryd.func48 rfl Tryd.ntmps48 rfl .bool fun B => by
    refine ab 1000 rfl trivial ?_
    refine S_while (α := Nat) (fun i => [(0, .str s), (6, .ptr 0 0 0)]) (fun i => [(0, some (.siter s i))]) (fun i => i ≤ s.length ∧ (s.take i).all hexB = true) (fun i => s.length - i) 0
      ⟨Nat.zero_le _, rfl⟩ (.cons rfl (.cons rfl (.nil _))) rfl ?_
    rintro i ⟨hi, hN⟩
    refine ab 1000 rfl trivial ?_
    refine S_next rfl rfl rfl rfl rfl (fun hil => ?_) (fun hge => ?_)
    · refine ab 1000 rfl trivial ?_
      refine S_cond rfl (fun _ => ?_) (fun h => by cases h)
      refine ab 1000 rfl trivial ?_
      have hno : ∀ (h : hexB s[i] = false), isDig s = false := fun h => by rw [isDig, all_false hil h]; rfl
      obtain ⟨r, wd, hrw, hhex, hwd⟩ : ∃ r wd, decL s i = (r, wd) ∧ (hexB s[i] = true ↔ (48 ≤ r ∧ r ≤ 57) ∨ (97 ≤ r ∧ r ≤ 102)) ∧ (hexB s[i] = true → wd = 1) := by
        by_cases hc : s[i].toNat < 128
        · exact ⟨_, _, decL_lt hil hc, by simp [hexB], fun _ => rfl⟩
        · have h1 := decL_ge hil (by omega)
          have h2 : ¬ hexB s[i] = true := by simp [hexB]; omega
          obtain ⟨q1, q2, hq⟩ : ∃ a b, decL s i = (a, b) := ⟨_, _, rfl⟩
          rw [hq] at h1
          have h1 : 128 ≤ q1 := h1
          exact ⟨q1, q2, hq, ⟨fun h => absurd h h2, fun h => by omega⟩, fun h => absurd h h2⟩
      rw [hrw]
      have no' : ¬ ((48 ≤ r ∧ r ≤ 57) ∨ (97 ≤ r ∧ r ≤ 102)) → isDig s = false := fun h => hno (by
        cases hb : hexB s[i] with
        | false => rfl
        | true => exact absurd (hhex.1 hb) h)
      refine S_guard rfl rfl rfl rfl (fun h1 => ?_) (fun h1 => ?_)
      · have h1 : r < 48 := by have := of_decide_eq_true h1; omega
        refine ab 1000 rfl trivial ?_
        refine S_guard rfl rfl rfl rfl (fun _ => ?_) (fun h => by cases h)
        refine ab 1000 rfl trivial ?_
        refine S_guard rfl rfl rfl rfl (fun _ => ?_) (fun h => ?_)
        · refine ab 1000 rfl trivial ?_
          refine S_cond rfl (fun _ => ?_) (fun h => by cases h)
          refine ab 1000 rfl trivial ?_
          refine S_retc .bool rfl trivial ?_
          rw [no' (by omega)]; rfl
        · have := of_decide_eq_false h; omega
      · have h1 : 48 ≤ r := by have := of_decide_eq_false h1; omega
        refine ab 1000 rfl trivial ?_
        refine S_guard rfl rfl rfl rfl (fun h2 => ?_) (fun h2 => ?_)
        · have h2 : 57 < r := by have := of_decide_eq_true h2; omega
          refine ab 1000 rfl trivial ?_
          refine S_guard rfl rfl rfl rfl (fun h3 => ?_) (fun h3 => ?_)
          · have h3 : r < 97 := by have := of_decide_eq_true h3; omega
            refine ab 1000 rfl trivial ?_
            refine S_cond rfl (fun _ => ?_) (fun h => by cases h)
            refine ab 1000 rfl trivial ?_
            refine S_retc .bool rfl trivial ?_
            rw [no' (by omega)]; rfl
          · have h3 : 97 ≤ r := by have := of_decide_eq_false h3; omega
            refine ab 1000 rfl trivial ?_
            refine S_dec rfl (fun h4 => ?_) (fun h4 => ?_)
            · refine ab 1000 rfl trivial ?_
              refine S_retc .bool rfl trivial ?_
              rw [no' (by omega)]; rfl
            · have hb := hhex.2 (.inr ⟨h3, by omega⟩)
              have := hwd hb
              subst this
              refine ab 1000 rfl trivial ?_
              exact S_round (i + 1) (by show s.length - (i + 1) < s.length - i; omega) ⟨hil, take_all hil hN hb⟩ (.cons rfl (.cons rfl (.nil _))) rfl
        · have h2 : r ≤ 57 := by have := of_decide_eq_false h2; omega
          have hb := hhex.2 (.inl ⟨h1, h2⟩)
          have := hwd hb
          subst this
          refine ab 1000 rfl trivial ?_
          refine S_cond rfl (fun h => by cases h) (fun _ => ?_)
          refine ab 1000 rfl trivial ?_
          exact S_round (i + 1) (by show s.length - (i + 1) < s.length - i; omega) ⟨hil, take_all hil hN hb⟩ (.cons rfl (.cons rfl (.nil _))) rfl
    · have hil : i = s.length := by omega
      refine ab 1000 rfl trivial ?_
      refine S_cond rfl (fun h => by cases h) (fun _ => ?_)
      refine ab 1000 rfl trivial ?_
      refine S_retc .bool rfl trivial ?_
      rw [hil, List.take_length] at hN
      rw [isDig, hN]
      show AV.bool ((s.length : Int) == 64) = _
      by_cases h : s.length = 64
      · simp [h]
      · have h1 : (s.length : Int) ≠ 64 := by omega
        rw [beq_eq_false_iff_ne.2 h, beq_eq_false_iff_ne.2 h1]; rfl
end Go.Proofs.YtfpdfpdlekngfaaDoor
end
