/-
  Texts of our own, in one file.
-/
import Derived.Test.YtpehmhlgldbeoaaGreatDoorGrpE
section
set_option linter.unusedVariables false
set_option linter.unusedSimpArgs false
set_option maxRecDepth 20000
set_option maxHeartbeats 4000000
namespace Go.Proofs.YtpehmhlgldbeoaaGreatDoor
open Go Go.Ab
theorem leT_tr {a b c : List UInt8} (h1 : a ≤ b) (h2 : b ≤ c) : a ≤ c := by
  simpa using leT_trans a b c (by simpa using h1) (by simpa using h2)
theorem addF_sort {o : List Fil} {f : Fil} (hnd : ((o ++ [f]).map Fil.path).Nodup) : addF (sortFl o) f = sortFl (o ++ [f]) := by
  refine sortFl_uniq hnd ?_ ?_
  · unfold addF
    refine List.perm_middle.trans ?_
    rw [List.take_append_drop]
    exact ((sortFl_perm o).cons f).trans (List.perm_append_singleton f o).symm
  · have hpw := sortFl_pw o
    have hk := lessF_le f.path (sortFl o)
    have hbefore : ∀ i (hi : i < (sortFl o).length), i < lessF f.path (sortFl o) → (sortFl o)[i].path ≤ f.path := fun i hi h => by
      have := lessF_lt hi h
      rw [bl_eq] at this
      exact List.le_of_lt (by simpa using this)
    have hafter : ∀ i (hi : i < (sortFl o).length), lessF f.path (sortFl o) ≤ i → f.path ≤ (sortFl o)[i].path := by
      intro i hi h
      have hk2 : lessF f.path (sortFl o) < (sortFl o).length := by omega
      have h1 := lessF_at hk2
      rw [bl_eq] at h1
      have h1 : ¬ (sortFl o)[lessF f.path (sortFl o)].path < f.path := by simpa using h1
      have h3 : f.path ≤ (sortFl o)[lessF f.path (sortFl o)].path := by
        rcases Std.lt_trichotomy (sortFl o)[lessF f.path (sortFl o)].path f.path with h | h | h
        · exact absurd h h1
        · rw [h]; exact List.le_refl _
        · exact List.le_of_lt h
      rcases Nat.lt_or_ge (lessF f.path (sortFl o)) i with h4 | h4
      · exact leT_tr h3 (List.pairwise_iff_getElem.1 hpw _ _ hk2 hi h4)
      · have : lessF f.path (sortFl o) = i := by omega
        simpa only [this] using h3
    unfold addF
    rw [List.pairwise_append]
    refine ⟨hpw.sublist (List.take_sublist _ _), ?_, ?_⟩
    · rw [List.pairwise_cons]
      refine ⟨fun x hx => ?_, hpw.sublist (List.drop_sublist _ _)⟩
      obtain ⟨i, hi, rfl⟩ := List.getElem_of_mem hx
      rw [List.getElem_drop]
      rw [List.length_drop] at hi
      exact hafter _ (by omega) (by omega)
    · intro x hx y hy
      obtain ⟨i, hi, rfl⟩ := List.getElem_of_mem hx
      rw [List.length_take] at hi
      rw [List.getElem_take]
      have h1 := hbefore i (by omega) (by omega)
      rcases List.mem_cons.1 hy with rfl | hy
      · exact h1
      · obtain ⟨j, hj, rfl⟩ := List.getElem_of_mem hy
        rw [List.length_drop] at hj
        rw [List.getElem_drop]
        exact leT_tr h1 (hafter _ (by omega) (by omega))
theorem flatN_pre {sub : List UInt8 → List UInt8 → List Fil → List Fil × Nat} {get : List UInt8 → Option (List UInt8)} {path : List UInt8} (hs : ∀ d p o, ∃ X, (sub d p o).1 = o ++ X) :
    ∀ (nds : List NodeV) (out : List Fil), ∃ X, (flatN sub get path nds out).1 = out ++ X
  | [], out => ⟨[], by simp [flatN]⟩
  | nd :: r, out => by
    rw [flatN]
    split
    · exact ⟨[], by simp⟩
    split
    · obtain ⟨X, hX⟩ := hs nd.dig (path ++ nd.name ++ [47]) out
      split
      · obtain ⟨Y, hY⟩ := flatN_pre (get := get) (path := path) hs r (sub nd.dig (path ++ nd.name ++ [47]) out).1
        exact ⟨X ++ Y, by rw [hY, hX, List.append_assoc]⟩
      · exact ⟨X, hX⟩
    split
    · exact ⟨[], by simp⟩
    · split
      · exact ⟨[], by simp⟩
      · obtain ⟨Y, hY⟩ := flatN_pre (get := get) (path := path) hs r (out ++ [⟨path ++ nd.name, ‹_›, nd.kind == 2⟩])
        exact ⟨_, by rw [hY, List.append_assoc]⟩
theorem flatD_pre (get : List UInt8 → Option (List UInt8)) : ∀ (n : Nat) (d path : List UInt8) (out : List Fil), ∃ X, (flatD get n d path out).1 = out ++ X
  | 0, d, path, out => ⟨[], by simp [flatD]⟩
  | n + 1, d, path, out => by
    rw [flatD]
    split
    · exact ⟨[], by simp⟩
    · split
      · exact ⟨[], by simp⟩
      · split
        · exact ⟨[], by simp⟩
        · exact flatN_pre (flatD_pre get n) _ out
theorem nd_pre {a X : List Fil} (h : ((a ++ X).map Fil.path).Nodup) : (a.map Fil.path).Nodup := by
  rw [List.map_append] at h
  exact (List.nodup_append.1 h).1
theorem flatN_rel {sub subR : List UInt8 → List UInt8 → List Fil → List Fil × Nat} {get : List UInt8 → Option (List UInt8)} {path : List UInt8} (hp : ∀ d p o, ∃ X, (sub d p o).1 = o ++ X)
    (hs : ∀ d p o, ((sub d p o).1.map Fil.path).Nodup → subR d p (sortFl o) = (sortFl (sub d p o).1, (sub d p o).2)) :
    ∀ (nds : List NodeV) (out : List Fil), ((flatN sub get path nds out).1.map Fil.path).Nodup → flatNR subR get path nds (sortFl out) = (sortFl (flatN sub get path nds out).1, (flatN sub get path nds out).2)
  | [], out, h => rfl
  | nd :: r, out, h => by
    rw [flatN] at h ⊢
    rw [flatNR]
    by_cases h1 : 100 < (path ++ nd.name).length
    · rw [if_pos h1, if_pos h1]
    rw [if_neg h1] at h ⊢
    rw [if_neg h1]
    by_cases h2 : nd.kind = 3
    · rw [if_pos h2] at h ⊢
      rw [if_pos h2]
      by_cases h3 : (sub nd.dig (path ++ nd.name ++ [47]) out).2 = 0
      · rw [if_pos h3] at h ⊢
        obtain ⟨Y, hY⟩ := flatN_pre (get := get) (path := path) hp r (sub nd.dig (path ++ nd.name ++ [47]) out).1
        have hn := h
        rw [hY] at hn
        rw [hs _ _ _ (nd_pre hn)]
        show (if (sub nd.dig (path ++ nd.name ++ [47]) out).2 = 0 then flatNR subR get path r (sortFl (sub nd.dig (path ++ nd.name ++ [47]) out).1) else _) = _
        rw [if_pos h3]
        exact flatN_rel (get := get) (path := path) hp hs r _ h
      · rw [if_neg h3] at h ⊢
        rw [hs _ _ _ h]
        show (if (sub nd.dig (path ++ nd.name ++ [47]) out).2 = 0 then _ else (sortFl (sub nd.dig (path ++ nd.name ++ [47]) out).1, (sub nd.dig (path ++ nd.name ++ [47]) out).2)) = _
        rw [if_neg h3]
    rw [if_neg h2] at h ⊢
    rw [if_neg h2]
    cases hg : get nd.dig with
    | none => rfl
    | some t =>
      rw [hg] at h
      have hl : (sortFl out).length = out.length := (sortFl_perm out).length_eq
      show (if (sortFl out).length = 60 then (sortFl out, 2) else flatNR subR get path r (addF (sortFl out) ⟨path ++ nd.name, t, nd.kind == 2⟩)) = _
      rw [hl]
      have h : ((if out.length = 60 then (out, 2) else flatN sub get path r (out ++ [⟨path ++ nd.name, t, nd.kind == 2⟩])).1.map Fil.path).Nodup := h
      show _ = (sortFl (if out.length = 60 then (out, 2) else flatN sub get path r (out ++ [⟨path ++ nd.name, t, nd.kind == 2⟩])).1, (if out.length = 60 then (out, 2) else flatN sub get path r (out ++ [⟨path ++ nd.name, t, nd.kind == 2⟩])).2)
      by_cases h4 : out.length = 60
      · rw [if_pos h4, if_pos h4]
      · rw [if_neg h4] at h ⊢
        rw [if_neg h4]
        obtain ⟨Y, hY⟩ := flatN_pre (get := get) (path := path) hp r (out ++ [⟨path ++ nd.name, t, nd.kind == 2⟩])
        have hn := h
        rw [hY] at hn
        rw [addF_sort (nd_pre hn)]
        exact flatN_rel (get := get) (path := path) hp hs r _ h
theorem flatD_rel (get : List UInt8 → Option (List UInt8)) : ∀ (n : Nat) (d path : List UInt8) (out : List Fil), ((flatD get n d path out).1.map Fil.path).Nodup → flatDR get n d path (sortFl out) = (sortFl (flatD get n d path out).1, (flatD get n d path out).2)
  | 0, d, path, out, h => rfl
  | n + 1, d, path, out, h => by
    rw [flatD] at h ⊢
    rw [flatDR]
    cases hg : get d with
    | none => rfl
    | some s =>
      rw [hg] at h
      have h : ((if (readNd s).2 ≠ 0 then (out, 1) else if (readNd s).1 = [] ∧ path ≠ [] then (out, 4) else flatN (flatD get n) get path (readNd s).1 out).1.map Fil.path).Nodup := h
      show (if (readNd s).2 ≠ 0 then (sortFl out, 1) else if (readNd s).1 = [] ∧ path ≠ [] then (sortFl out, 4) else flatNR (flatDR get n) get path (readNd s).1 (sortFl out)) = (sortFl (if (readNd s).2 ≠ 0 then (out, 1) else if (readNd s).1 = [] ∧ path ≠ [] then (out, 4) else flatN (flatD get n) get path (readNd s).1 out).1, (if (readNd s).2 ≠ 0 then (out, 1) else if (readNd s).1 = [] ∧ path ≠ [] then (out, 4) else flatN (flatD get n) get path (readNd s).1 out).2)
      by_cases h1 : (readNd s).2 ≠ 0
      · rw [if_pos h1, if_pos h1]
      rw [if_neg h1] at h ⊢
      rw [if_neg h1]
      by_cases h2 : (readNd s).1 = [] ∧ path ≠ []
      · rw [if_pos h2, if_pos h2]
      rw [if_neg h2] at h ⊢
      rw [if_neg h2]
      exact flatN_rel (flatD_pre get n) (flatD_rel get n) _ out h
theorem get_eq {blobs : List (List UInt8)} (h : Apart blobs) (d : List UInt8) : getF blobs d = getM (ksB blobs) (txB blobs) d := by
  unfold getF getM
  by_cases hd : d ∈ ksB blobs
  · rw [if_pos hd]
    obtain ⟨s, hs, hsd⟩ := ksB_mem.1 hd
    have h1 : ∃ t, blobs.find? (fun s => sha s == d) = some t := by
      cases hq : blobs.find? (fun s => sha s == d) with
      | some t => exact ⟨t, rfl⟩
      | none =>
        rw [List.find?_eq_none] at hq
        exact absurd (by simpa using hsd) (hq s hs)
    obtain ⟨t, ht⟩ := h1
    rw [ht]
    unfold txB
    have h2 : ∃ u, blobs.reverse.find? (fun s => sha s == d) = some u := by
      cases hq : blobs.reverse.find? (fun s => sha s == d) with
      | some t => exact ⟨t, rfl⟩
      | none =>
        rw [List.find?_eq_none] at hq
        exact absurd (by simpa using hsd) (hq s (by simpa using hs))
    obtain ⟨u, hu⟩ := h2
    rw [hu]
    have e1 : sha t = d := by simpa using List.find?_some ht
    have e2 : sha u = d := by simpa using List.find?_some hu
    have m1 := List.mem_of_find?_eq_some ht
    have m2 : u ∈ blobs := by simpa using List.mem_of_find?_eq_some hu
    rw [h t m1 u m2 (e1.trans e2.symm)]; rfl
  · rw [if_neg hd, List.find?_eq_none]
    intro s hs e
    exact hd (ksB_mem.2 ⟨s, hs, by simpa using e⟩)
theorem flat_same {root : List UInt8} {blobs : List (List UInt8)} (h : Apart blobs) : flatDR (getF blobs) 102 root [] [] = (sortFl (flatY root blobs).1, (flatY root blobs).2) := by
  have hg : getF blobs = getM (ksB blobs) (txB blobs) := funext (get_eq h)
  rw [hg]
  obtain ⟨X, h1, h2, _⟩ := flatD_form (getM (ksB blobs) (txB blobs)) 102 root [] []
  have := flatD_rel (getM (ksB blobs) (txB blobs)) 102 root [] [] (by rw [h1]; exact h2)
  rw [show sortFl [] = [] by unfold sortFl; exact List.mergeSort_nil] at this
  exact this
end Go.Proofs.YtpehmhlgldbeoaaGreatDoor
end
section
set_option linter.unusedVariables false
set_option linter.unusedSimpArgs false
namespace Go.Ab
open Go
section
variable {cx : Cx} {n : Nat} {B : Bs} {k : List AI} {Q : Post} {fr : Fr} {σ : Heap}
theorem wpAny_frontG {σ' : Heap} {hp : Array Bool → Heap} {ops : Array Oper} {m : Nat} {vals : List AV} {K : List Nat} {Q' : Exit → Act → World → Prop} (hmN : m ≤ ops.size) (hlen : vals.length = m)
    (hread : ∀ j o t, j < m → ops.toList[j]? = some o → t ∈ slotsOf ops.toList o → readOk ops.toList m j t = true)
    (huniq : ∀ i j d, i < m → j < m → dstOf ops.toList i = some d → dstOf ops.toList j = some d → i = j)
    (hch : ∀ j, m < j → j < ops.size → edge ops.toList j (j - 1) = true) (hlo : ∀ j i, edge ops.toList j i = true → i < j)
    (hcl : m < ops.size → ∀ i, i < m → ∃ k, i < k ∧ k ≤ m ∧ edge ops.toList k i = true)
    (hin : ∀ listed : Array Bool, (∀ j, j < m → Listed listed j) → hp listed = σ') (hdst : ∀ (j : Nat) (o : Oper), j < m → ops.toList[j]? = some o → dstOk n o.dst = true)
    (hstep : ∀ (j : Nat) o v, j < m → ops.toList[j]? = some o → vals[j]? = some v → ∀ listed : Array Bool, listed.size = ops.size → ¬ Listed listed j → (∀ i, edge ops.toList j i = true → Listed listed i) → Down ops.toList listed → StepX cx n ops (hp listed) (hp (listed.setIfInBounds j true)) K (restr ops.toList o (ovl (ops.toList.take j) (vals.take j) fr)) o v)
    (hend : ∀ r a w, Inv cx r σ' w → FRel r w n (ovl (ops.toList.take m) vals fr) a → Dfs B a → Ext B.r B.σ B.w r σ' w → wpList cx.P ops Q' (ops.toList.drop m) a w) :
    ∀ (f : Nat) (listed : Array Bool) (r : Rl) (a : Act) (w : World), listed.size = ops.size → unl listed = f → Down ops.toList listed → (∀ j, m ≤ j → ¬ Listed listed j) →
      FL r w n fr ops.toList m vals listed a → Inv cx r (hp listed) w → Dfs B a → Ext B.r B.σ B.w r (hp listed) w → wpAny cx.P .any ops Q' f listed a w := by
  have ovlN : ∀ i, i ≤ m → ∀ vs, (ovl (ops.toList.take i) (vals.take i) fr).get n = .mark vs → fr.get n = .mark vs := by
    intro i him vs hm
    rcases ovl_get (ops.toList.take i) (vals.take i) fr n (by simp [hlen]; omega) with ⟨i', o', v', k1, k2, k3, k4⟩ | ⟨k1, k2⟩
    · exfalso
      have hi'i : i' < i := by
        rcases Nat.lt_or_ge i' i with h' | h'
        · exact h'
        · rw [List.getElem?_eq_none (by simp; omega)] at k1; cases k1
      rw [List.getElem?_take_of_lt hi'i] at k1 k3
      have hds : dstOk n o'.dst = true := hdst i' o' (by omega) k1
      rw [k2] at hds
      have := blt_lt hds
      omega
    · rw [← k2]; exact hm
  have fin : ∀ (f : Nat) (listed : Array Bool) (r : Rl) (a : Act) (w : World), listed.size = ops.size → unl listed = f → (∀ j, j < m → Listed listed j) → (∀ j, m ≤ j → ¬ Listed listed j) →
      FL r w n fr ops.toList m vals listed a → Inv cx r (hp listed) w → Dfs B a → Ext B.r B.σ B.w r (hp listed) w → wpAny cx.P .any ops Q' f listed a w := by
    intro f listed r a w hs hf hall hno hfl hi hd hx
    rw [hin _ hall] at hi hx
    have hcount : unl listed + m = ops.size := by
      have hl : listed.toList = List.replicate m true ++ List.replicate (ops.size - m) false := by
        apply List.ext_getElem
        · simp; omega
        · intro j h1 h2
          have hj : j < listed.size := by simpa using h1
          have h3 : listed.getD j false = listed.toList[j] := by simp [Array.getD_eq_getD_getElem?, hj]
          by_cases hjm : j < m
          · rw [List.getElem_append_left (by simpa using hjm), List.getElem_replicate, ← h3]; exact hall j hjm
          · rw [List.getElem_append_right (by simp; omega), List.getElem_replicate, ← h3]
            have := hno j (by omega)
            unfold Listed at this
            simpa using this
      unfold unl
      rw [hl, List.countP_append, List.countP_replicate, List.countP_replicate]
      simp; omega
    refine wpAny_tail hch hlo f m listed a w (by omega) (Nat.le_refl m) hs (fun i hi' => ⟨fun h => ?_, fun h => hall i h⟩) (hend r a w hi ⟨hfl.size, fun t => ?_, fun vs hm => ?_⟩ hd hx)
    case refine_3 =>
      refine hfl.defs vs (ovlN m (Nat.le_refl _) vs ?_)
      rw [show vals.take m = vals from List.take_of_length_le (by omega)]
      exact hm
    · rcases Nat.lt_or_ge i m with h' | h'
      · exact h'
      · exact absurd h (hno i h')
    · rcases ovl_get (ops.toList.take m) vals fr t (by simp [hlen]; omega) with ⟨i, o, v, h1, h2, h3, h4⟩ | ⟨h1, h2⟩
      · rw [h4]
        have him : i < m := by
          rcases Nat.lt_or_ge i m with h' | h'
          · exact h'
          · rw [List.getElem?_eq_none (by simp; omega)] at h1; cases h1
        rw [List.getElem?_take_of_lt him] at h1
        exact hfl.done i t v him (hall i him) (by simp [dstOf, h1, h2]) h3
      · rw [h2]
        refine hfl.rest t (fun j hj _ hdj => ?_)
        obtain ⟨o, ho, hod⟩ := Option.bind_eq_some_iff.1 hdj
        exact h1 j o (by rw [List.getElem?_take_of_lt hj]; exact ho) hod
  intro f
  induction f with
  | zero =>
    intro listed r a w hs hf hdn hno hfl hi hd hx
    refine fin 0 listed r a w hs hf (fun j hj => ?_) hno hfl hi hd hx
    rcases hb : listed.getD j false with _ | _
    · have := unl_set (by omega) hb
      omega
    · exact hb
  | succ f ih =>
    intro listed r a w hs hf hdn hno hfl hi hd hx
    by_cases hall : ∀ j, j < m → Listed listed j
    · exact fin (f + 1) listed r a w hs hf hall hno hfl hi hd hx
    have hex : ∃ j, j < m ∧ ¬ Listed listed j := by
      apply Classical.byContradiction
      intro h
      exact hall (fun j hj => Classical.byContradiction fun hl => h ⟨j, hj, hl⟩)
    refine ⟨fun h0 => ?_, fun i hir => ?_⟩
    · obtain ⟨j, h1, h2, h3⟩ := exists_least m hex
      have hjr : j ∈ Region.ready .any ops listed := by
        refine mem_ready.2 ⟨?_, ops[j]'(by omega), Array.getElem?_eq_getElem _, fun e he hb => ?_⟩
        · rw [listed_true (by omega)]; simpa [Listed] using h2
        · have h4 : e.on < j := hlo j e.on (edge_iff.2 ⟨ops[j]'(by omega), Array.getElem?_eq_getElem _, e, he, hb, rfl⟩)
          exact Classical.byContradiction fun h5 => h3 e.on h4 h5
      rw [h0] at hjr; cases hjr
    · obtain ⟨h0, o, ho, hedges⟩ := mem_ready.1 hir
      have hilt := (Array.getElem?_eq_some_iff.1 ho).1
      rw [listed_true (by omega)] at h0
      have hed : ∀ j, edge ops.toList i j = true → Listed listed j := by
        intro j hj
        obtain ⟨o', ho', e, he, hb, hon⟩ := edge_iff.1 hj
        rw [ho] at ho'; cases ho'
        rw [← hon]; exact hedges e he hb
      have him : i < m := by
        rcases Nat.lt_or_ge i m with h' | h'
        · exact h'
        · exfalso
          rcases Nat.eq_or_lt_of_le h' with h'' | h''
          · subst h''
            refine hall (fun j hj => ?_)
            have key : ∀ d j, d + j = m → j < m → Listed listed j := by
              intro d
              induction d using Nat.strongRecOn with
              | _ d ihd =>
                intro j hdj hj
                obtain ⟨k, h1, h2, h3⟩ := hcl hilt j hj
                rcases Nat.eq_or_lt_of_le h2 with h4 | h4
                · subst h4; exact hed j h3
                · exact hdn k j (ihd (m - k) (by omega) k (by omega) h4) h3
            exact key (m - j) j (by omega) hj
          · exact hno (i - 1) (by omega) (hed _ (hch i h'' hilt))
      have hol : ops.toList[i]? = some o := by simpa using ho
      obtain ⟨v, hv⟩ : ∃ v, vals[i]? = some v := ⟨vals[i]'(by omega), List.getElem?_eq_getElem _⟩
      have hX : StepX cx n ops (hp listed) (hp (listed.setIfInBounds i true)) K (restr ops.toList o (ovl (ops.toList.take i) (vals.take i) fr)) o v :=
        hstep i o v him hol hv listed hs (by simp [Listed, h0]) hed hdn
      obtain ⟨hdstI, hst⟩ := hX
      have hnl : ¬ Listed listed i := by simp [Listed, h0]
      have hfr : FRel r w n (restr ops.toList o (ovl (ops.toList.take i) (vals.take i) fr)) a := by
        refine ⟨hfl.size, fun t => ?_, fun vs hm => ?_⟩
        case refine_2 =>
          unfold restr at hm
          rcases restr_get (slotsOf ops.toList o) (ovl (ops.toList.take i) (vals.take i) fr) n with h | ⟨h1, h2⟩
          · rw [h] at hm; cases hm
          · rw [h2] at hm
            exact hfl.defs vs (ovlN i (by omega) vs hm)
        unfold restr
        rcases restr_get (slotsOf ops.toList o) (ovl (ops.toList.take i) (vals.take i) fr) t with h | ⟨h1, h2⟩
        · rw [h]; exact .top
        · rw [h2]
          have hro := hread i o t him hol h1
          have hrd : ∀ i', i' < m → dstOf ops.toList i' = some t → (i' < i → edge ops.toList i i' = true) ∧ (i < i' → edge ops.toList i' i = true) := by
            intro i' hi' hd'
            have := allB_mem hro _ (List.mem_map.2 ⟨i', List.mem_range.2 hi', rfl⟩)
            rw [eqDst_iff.2 hd'] at this
            simp only at this
            constructor
            · intro hlt
              rw [lt_blt hlt] at this
              exact this
            · intro hlt
              rw [show Nat.blt i' i = false by cases hbb : Nat.blt i' i with | false => rfl | true => (have := blt_lt hbb; omega), show Nat.beq i' i = false by cases hbb : Nat.beq i' i with | false => rfl | true => (have := Nat.eq_of_beq_eq_true hbb; omega)] at this
              exact this
          rcases ovl_get (ops.toList.take i) (vals.take i) fr t (by simp [hlen]; omega) with ⟨i', o', v', k1, k2, k3, k4⟩ | ⟨k1, k2⟩
          · rw [k4]
            have hi'i : i' < i := by
              rcases Nat.lt_or_ge i' i with h' | h'
              · exact h'
              · rw [List.getElem?_eq_none (by simp; omega)] at k1; cases k1
            rw [List.getElem?_take_of_lt hi'i] at k1 k3
            have hd' : dstOf ops.toList i' = some t := by simp only [dstOf, k1, Option.bind_some, k2]
            exact hfl.done i' t v' (by omega) (hed _ ((hrd i' (by omega) hd').1 hi'i)) hd' k3
          · rw [k2]
            refine hfl.rest t (fun j hj hlj hdj => ?_)
            rcases Nat.lt_trichotomy j i with h' | h' | h'
            · obtain ⟨oj, hoj, hod⟩ := Option.bind_eq_some_iff.1 hdj
              exact k1 j oj (by rw [List.getElem?_take_of_lt h']; exact hoj) hod
            · subst h'; exact hnl hlj
            · exact hnl (hdn j i hlj ((hrd j hj hdj).2 h'))
      have next : ∀ (r' : Rl) (w' : World) (v' : Value), VRel r' w' v' v → Inv cx r' (hp (listed.setIfInBounds i true)) w' → Ext r (hp listed) w r' (hp (listed.setIfInBounds i true)) w' → wpAny cx.P .any ops Q' f (listed.setIfInBounds i true) (a.put o.dst v') w' := by
        intro r' w' v' hv' hi' hx'
        have hun := unl_set (by omega) h0
        refine ih _ r' _ w' (by simpa using hs) (by omega) (fun j l hj he => ?_) (fun j hj hl => ?_) ⟨?_, fun j d u hj hl hdj hu => ?_, fun t ht => ?_, fun vs hm => by rw [Act.put_defers]; exact (hfl.defs vs hm).mono (hx'.grow hi)⟩ hi' (hd.put _ _) (hx.trans hx')
        · rw [listed_set (by omega)] at hj ⊢
          rcases hj with rfl | hj
          · exact .inr (hed l he)
          · exact .inr (hdn j l hj he)
        · rw [listed_set (by omega)] at hl
          rcases hl with rfl | hl
          · omega
          · exact hno j hj hl
        · cases hod : o.dst <;> simp [Act.put, hfl.size]
        · have hg := hx'.grow hi
          rw [listed_set (by omega)] at hl
          by_cases hji : j = i
          · subst hji
            rw [hv] at hu; cases hu
            have hod : o.dst = some d := by simpa [dstOf, hol] using hdj
            rw [hod]
            rw [hod] at hdstI
            simp only [Act.put]
            rw [getD_setIfInBounds (by rw [hfl.size]; exact blt_lt hdstI), if_pos rfl]
            exact hv'
          · have hl' := hl.resolve_left hji
            have hold := (hfl.done j d u hj hl' hdj hu).mono hg
            cases hod : o.dst with
            | none => exact hold
            | some d' =>
              have hne : d' ≠ d := fun e => hji (huniq j i d hj him hdj (by subst e; simp [dstOf, hol, hod]))
              rw [hod] at hdstI
              simp only [Act.put]
              rw [getD_setIfInBounds (by rw [hfl.size]; exact blt_lt hdstI), if_neg hne]
              exact hold
        · have hg := hx'.grow hi
          have hold := (hfl.rest t (fun j hj hl => ht j hj ((listed_set (by omega)).2 (.inr hl)))).mono hg
          have hti := ht i him ((listed_set (by omega)).2 (.inl rfl))
          cases hod : o.dst with
          | none => exact hold
          | some d' =>
            have hne : d' ≠ t := fun e => hti (by subst e; simp [dstOf, hol, hod])
            rw [hod] at hdstI
            simp only [Act.put]
            rw [getD_setIfInBounds (by rw [hfl.size]; exact blt_lt hdstI), if_neg hne]
            exact hold
      unfold wpOp
      simp only [ho]
      rcases hst with ⟨hg, rfl, hσ⟩ | ⟨hg, hgo⟩
      · rw [guardA_wanted (cx := cx) hfr hg]
        simp only [Bool.false_eq_true, if_false]
        exact next r w undef (.tup rfl (fun i h => absurd h (by simp))) (by rw [hσ]; exact hi) (by rw [hσ]; exact Ext.refl _ _ _)
      · rw [guardA_wanted (cx := cx) hfr hg]
        simp only [if_true]
        refine .inl (Oper.wp_mono (fun a' w' h => ?_) (hgo r a w hi hfr Q'))
        obtain ⟨r', v', rfl, h2, h3, h4⟩ := h
        exact next r' w' v' h2 h3 h4
def hp2 (σ σ1 σ2 : Heap) (j1 j2 : Nat) (listed : Array Bool) : Heap := bif listed.getD j2 false then σ2 else bif listed.getD j1 false then σ1 else σ
def runC2 (cx : Cx) (K : List Nat) (n : Nat) (all : Array Oper) (ops : List Oper) (σ σ1 σ2 : Heap) (j1 j2 : Nat) : List Oper → Nat → Fr → List AV → Option (List Prop × List AV × Fr)
  | [], _, fr, rs => some ([], [], fr)
  | o :: r, i, fr, rs => match Nat.beq i j1 with
    | true => match rs with
      | v :: rs => match dstOk n o.dst with
        | true => match guardA all o K (restr ops o fr) with
          | some true => match runC2 cx K n all ops σ σ1 σ2 j1 j2 r (i + 1) (setA o.dst v fr) rs with
            | some (D, vs, fr') => some ((OpSpec cx n (restr ops o fr) σ o v σ1) :: D, v :: vs, fr')
            | none => none
          | _ => none
        | false => none
      | [] => none
    | false => match Nat.beq i j2 with
      | true => match rs with
        | v :: rs => match dstOk n o.dst with
          | true => match guardA all o K (restr ops o fr) with
            | some true => match runC2 cx K n all ops σ σ1 σ2 j1 j2 r (i + 1) (setA o.dst v fr) rs with
              | some (D, vs, fr') => some ((OpSpec cx n (restr ops o fr) σ1 o v σ2) :: D, v :: vs, fr')
              | none => none
            | _ => none
          | false => none
        | [] => none
      | false => match oneD cx K n all σ o (restr ops o fr) rs with
        | some (C, v, rs') => match oneD cx K n all σ1 o (restr ops o fr) rs with
          | some (C1, v1, _) => match oneD cx K n all σ2 o (restr ops o fr) rs with
            | some (C2, v2, _) => forceV v fun v => match runC2 cx K n all ops σ σ1 σ2 j1 j2 r (i + 1) (setA o.dst v fr) rs' with
              | some (D, vs, fr') => some (C ++ (C1 ++ (C2 ++ ((v1 = v) :: (v2 = v) :: D))), v :: vs, fr')
              | none => none
            | none => none
          | none => none
        | none => none
theorem runC2_spec {σ1 σ2 : Heap} {j1 j2 : Nat} {K : List Nat} {all : Array Oper} {ops : List Oper} : ∀ {l : List Oper} {i : Nat} {fr fr' : Fr} {rs vals : List AV} {C : List Prop}, runC2 cx K n all ops σ σ1 σ2 j1 j2 l i fr rs = some (C, vals, fr') → AllP C →
    vals.length = l.length ∧ fr' = ovl l vals fr ∧ ∀ (j : Nat) (o : Oper) (v : AV), l[j]? = some o → vals[j]? = some v →
      (i + j ≠ j1 → i + j ≠ j2 → ∀ s : Heap, s = σ ∨ s = σ1 ∨ s = σ2 → StepX cx n all s s K (restr ops o (ovl (l.take j) (vals.take j) fr)) o v) ∧ (i + j = j1 → StepX cx n all σ σ1 K (restr ops o (ovl (l.take j) (vals.take j) fr)) o v) ∧ (i + j = j2 → i + j ≠ j1 → StepX cx n all σ1 σ2 K (restr ops o (ovl (l.take j) (vals.take j) fr)) o v)
  | [], i, fr, fr', rs, vals, C, h, hC => by
    simp only [runC2, Option.some.injEq, Prod.mk.injEq] at h
    obtain ⟨rfl, rfl, rfl⟩ := h
    exact ⟨rfl, rfl, fun j o v h => by simp at h⟩
  | o :: l, i, fr, fr', rs, vals, C, h, hC => by
    simp only [runC2] at h
    split at h
    · rename_i hb
      have hij : i = j1 := Nat.eq_of_beq_eq_true hb
      split at h
      case h_2 => cases h
      rename_i v rs'
      split at h
      case h_2 => cases h
      rename_i hds
      split at h
      case h_2 => cases h
      rename_i hg
      split at h
      case h_2 => cases h
      rename_i D vs fr1 h2
      simp only [Option.some.injEq, Prod.mk.injEq] at h
      obtain ⟨rfl, rfl, rfl⟩ := h
      obtain ⟨hsp, hD⟩ := hC
      obtain ⟨k1, k2, k3⟩ := runC2_spec h2 hD
      refine ⟨by simp [k1], by rw [k2]; rfl, fun j oj vj hj hvj => ?_⟩
      cases j with
      | zero =>
        simp only [List.getElem?_cons_zero, Option.some.injEq] at hj hvj
        subst hj; subst hvj
        exact ⟨fun h => absurd hij h, fun _ => specC_step hds hg hsp, fun _ h => absurd hij h⟩
      | succ j =>
        simp only [List.getElem?_cons_succ] at hj hvj
        have := k3 j oj vj hj hvj
        rw [show i + 1 + j = i + (j + 1) by omega] at this
        exact this
    · rename_i hb
      have hij : i ≠ j1 := fun e => by rw [e, Nat.beq_refl] at hb; cases hb
      split at h
      · rename_i hb2
        have hij2 : i = j2 := Nat.eq_of_beq_eq_true hb2
        split at h
        case h_2 => cases h
        rename_i v rs'
        split at h
        case h_2 => cases h
        rename_i hds
        split at h
        case h_2 => cases h
        rename_i hg
        split at h
        case h_2 => cases h
        rename_i D vs fr1 h2
        simp only [Option.some.injEq, Prod.mk.injEq] at h
        obtain ⟨rfl, rfl, rfl⟩ := h
        obtain ⟨hsp, hD⟩ := hC
        obtain ⟨k1, k2, k3⟩ := runC2_spec h2 hD
        refine ⟨by simp [k1], by rw [k2]; rfl, fun j oj vj hj hvj => ?_⟩
        cases j with
        | zero =>
          simp only [List.getElem?_cons_zero, Option.some.injEq] at hj hvj
          subst hj; subst hvj
          exact ⟨fun _ h => absurd hij2 h, fun h => absurd h hij, fun _ _ => specC_step hds hg hsp⟩
        | succ j =>
          simp only [List.getElem?_cons_succ] at hj hvj
          have := k3 j oj vj hj hvj
          rw [show i + 1 + j = i + (j + 1) by omega] at this
          exact this
      · rename_i hb2
        have hij2 : i ≠ j2 := fun e => by rw [e, Nat.beq_refl] at hb2; cases hb2
        split at h
        case h_2 => cases h
        rename_i C1 v rs' h1
        split at h
        case h_2 => cases h
        rename_i C1' v' _ h1'
        split at h
        case h_2 => cases h
        rename_i C1'' v'' _ h1''
        rw [forceV_eq] at h
        split at h
        case h_2 => cases h
        rename_i D vs fr1 h2
        simp only [Option.some.injEq, Prod.mk.injEq] at h
        obtain ⟨rfl, rfl, rfl⟩ := h
        obtain ⟨hC1, hD1⟩ := AllP_append hC
        obtain ⟨hC1', hD2⟩ := AllP_append hD1
        obtain ⟨hC1'', hD3⟩ := AllP_append hD2
        obtain ⟨hv, hv', hD⟩ := hD3
        subst hv
        subst hv'
        obtain ⟨k1, k2, k3⟩ := runC2_spec h2 hD
        refine ⟨by simp [k1], by rw [k2]; rfl, fun j oj vj hj hvj => ?_⟩
        cases j with
        | zero =>
          simp only [List.getElem?_cons_zero, Option.some.injEq] at hj hvj
          subst hj; subst hvj
          refine ⟨fun _ _ s hs => ?_, fun h => absurd h hij, fun h _ => absurd h hij2⟩
          rcases hs with rfl | rfl | rfl
          · exact (oneD_spec h1 hC1).x
          · exact (oneD_spec h1' hC1').x
          · exact (oneD_spec h1'' hC1'').x
        | succ j =>
          simp only [List.getElem?_cons_succ] at hj hvj
          have := k3 j oj vj hj hvj
          rw [show i + 1 + j = i + (j + 1) by omega] at this
          exact this
theorem S_drawC2 {id : Nat} (σ1 σ2 : Heap) (j1 j2 : Nat) {ops : Array Oper} {vals : List AV} {C : List Prop} {fr' : Fr} (m : Nat) (K : List Nat) (rs : List AV) (hP : cx.P.follows .mixedOrders = true) (hchk : drawOk ops.toList m = true) (hmN : Nat.ble m ops.size = true) (hj : Nat.blt j1 j2 = true) (hj2 : Nat.blt j2 m = true) (hedge : edge ops.toList j2 j1 = true)
    (hrun : normC (runC2 cx K n ops ops.toList σ σ1 σ2 j1 j2 (ops.toList.take m) 0 fr rs) = some (C, vals, fr')) (hC : AllP C)
    (hk : S cx n B (.ops ops (ops.toList.drop m) [] :: k) Q fr' σ2) : S cx n B (.code (.region id ops true) :: k) Q fr σ := by
  intro r a w hi hf hd hx
  rw [normC_eq] at hrun
  obtain ⟨c1, c2, c3, c4, c5⟩ := drawOk_spec hchk
  obtain ⟨k1, k2, k3⟩ := runC2_spec hrun hC
  have hmN' := Nat.le_of_ble_eq_true hmN
  have hjlt := blt_lt hj
  have hjlt2 := blt_lt hj2
  have hlen : vals.length = m := by rw [k1]; simp; omega
  obtain ⟨hi1, hx1⟩ := hi.heap_eq (w' := { w with drawn := w.drawn + 1 }) rfl rfl rfl rfl
  have hf1 := hf.mono (hx1.grow hi)
  have nl : ∀ {j : Nat}, ¬ Listed (Array.replicate ops.size false) j := by
    intro j hj
    unfold Listed at hj
    rw [Array.getD_eq_getD_getElem?, Array.getElem?_replicate] at hj
    split at hj <;> simp at hj
  have nlF : ∀ {j : Nat}, (Array.replicate ops.size false).getD j false = false := by
    intro j
    cases hb : (Array.replicate ops.size false).getD j false with
    | false => rfl
    | true => exact absurd hb nl
  have h0 : hp2 σ σ1 σ2 j1 j2 (Array.replicate ops.size false) = σ := by unfold hp2; rw [nlF, nlF]; rfl
  have hgs : ∀ (listed : Array Bool) (i j : Nat), i < listed.size → (listed.setIfInBounds i true).getD j false = if j = i then true else listed.getD j false := by
    intro listed i j hil
    simp only [Array.getD_eq_getD_getElem?, Array.getElem?_setIfInBounds]
    by_cases h : i = j
    · subst h; simp [hil]
    · rw [if_neg h, if_neg (Ne.symm h)]
  have hstep : ∀ (j : Nat) o v, j < m → ops.toList[j]? = some o → vals[j]? = some v → ∀ listed : Array Bool, listed.size = ops.size → ¬ Listed listed j → (∀ i, edge ops.toList j i = true → Listed listed i) → Down ops.toList listed → StepX cx n ops (hp2 σ σ1 σ2 j1 j2 listed) (hp2 σ σ1 σ2 j1 j2 (listed.setIfInBounds j true)) K (restr ops.toList o (ovl (ops.toList.take j) (vals.take j) fr)) o v := by
    intro j o v hjm ho hv listed hs hnl hed hdn
    have h := k3 j o v (by rw [List.getElem?_take_of_lt hjm]; exact ho) hv
    rw [List.take_take, Nat.min_eq_left (by omega), Nat.zero_add] at h
    have hnlF : listed.getD j false = false := by
      cases hb : listed.getD j false with
      | false => rfl
      | true => exact absurd hb hnl
    by_cases e1 : j = j1
    · subst e1
      have hn2 : listed.getD j2 false = false := by
        cases hb : listed.getD j2 false with
        | false => rfl
        | true => exact absurd (hdn j2 j hb hedge) hnl
      have a1 : hp2 σ σ1 σ2 j j2 listed = σ := by unfold hp2; rw [hn2, hnlF]; rfl
      have a2 : hp2 σ σ1 σ2 j j2 (listed.setIfInBounds j true) = σ1 := by
        unfold hp2
        rw [hgs _ _ _ (by omega), hgs _ _ _ (by omega), if_neg (by omega), hn2, if_pos rfl]; rfl
      rw [a1, a2]
      exact h.2.1 rfl
    · by_cases e2 : j = j2
      · subst e2
        have hl1 : listed.getD j1 false = true := hed j1 hedge
        have a1 : hp2 σ σ1 σ2 j1 j listed = σ1 := by unfold hp2; rw [hnlF, hl1]; rfl
        have a2 : hp2 σ σ1 σ2 j1 j (listed.setIfInBounds j true) = σ2 := by
          unfold hp2
          rw [hgs _ _ _ (by omega), if_pos rfl]; rfl
        rw [a1, a2]
        exact h.2.2 rfl e1
      · have a1 : hp2 σ σ1 σ2 j1 j2 (listed.setIfInBounds j true) = hp2 σ σ1 σ2 j1 j2 listed := by
          unfold hp2
          rw [hgs _ _ _ (by omega), hgs _ _ _ (by omega), if_neg (Ne.symm e2), if_neg (Ne.symm e1)]
        rw [a1]
        refine h.1 e1 e2 _ ?_
        unfold hp2
        cases listed.getD j2 false <;> cases listed.getD j1 false
        · exact .inl rfl
        · exact .inr (.inl rfl)
        · exact .inr (.inr rfl)
        · exact .inr (.inr rfl)
  refine wp_region_any hP ?_
  refine wpAny_frontG (σ' := σ2) (hp := hp2 σ σ1 σ2 j1 j2) (cx := cx) (n := n) (B := B) (fr := fr) (m := m) (vals := vals) (K := K) hmN' hlen c1 c2 c3 c4 c5 (fun listed hall => ?_) (fun j o hjm ho => ?_) hstep (fun r a w hi hf hd hx => ?_) ops.size _ r a _ (by simp) ?_ (fun j i hj => ?_) (fun j _ => ?_) ⟨hf1.size, fun j d v _ hj => ?_, fun t _ => hf1.get t, hf1.defs⟩ (by rw [h0]; exact hi1) hd (by rw [h0]; exact hx.trans hx1)
  · have : listed.getD j2 false = true := hall j2 hjlt2
    unfold hp2; rw [this]; rfl
  · obtain ⟨v, hv⟩ : ∃ v, vals[j]? = some v := ⟨vals[j]'(by omega), List.getElem?_eq_getElem _⟩
    have h := k3 j o v (by rw [List.getElem?_take_of_lt hjm]; exact ho) hv
    rw [Nat.zero_add] at h
    by_cases e1 : j = j1
    · exact (h.2.1 e1).1
    · by_cases e2 : j = j2
      · exact (h.2.2 e2 e1).1
      · exact (h.1 e1 e2 σ (.inl rfl)).1
  · rw [k2] at hk
    exact hk r a w hi hf hd hx
  · unfold unl; simp [List.countP_replicate]
  · exact absurd hj nl
  · exact nl
  · exact absurd hj nl
theorem OpSpec.aop {σ' : Heap} {o : Oper} {C : List Prop} {v : AV} (h : aOp cx [] o.dst o.op fr σ = some (C, v, σ')) (hC : AllP C) : OpSpec cx n fr σ o v σ' := fun r a w hi hf => aOp_run hi hf h hC
end
end Go.Ab
end
section
set_option linter.unusedVariables false
set_option linter.unusedSimpArgs false
set_option maxRecDepth 20000
namespace Go.Proofs.YtpehmhlgldbeoaaGreatDoor
open Go Go.Ab
def checkL (l : List (List UInt8)) (most : Nat) : Nat := if most < l.length then 2 else if l.any (fun s => decide (100000 < s.length)) then 2 else 0
theorem CheckList_ok {st fl : Bool} (l : List (List UInt8)) (most : Nat) (hl : l.length ≤ 9223372036854775806) : Calc cx 20 [.sl st fl 1 (texts l), .int .i64 most] (.int .i64 (checkL l most : Nat)) :=
  pure_intro (fun a w => Tryz.call20 a w) Tryz.func20 rfl Tryz.ntmps20 rfl .int fun B => by
    refine ab 1000 rfl trivial ?_
    refine S_dec rfl (fun h => ?_) (fun h => ?_)
    · have h : most < l.length := by simp [texts] at h; omega
      refine ab 1000 rfl trivial ?_
      refine S_retc .int rfl trivial ?_
      rw [checkL, if_pos h]; rfl
    · have h : ¬ most < l.length := by simp [texts] at h; omega
      refine ab 1000 rfl trivial ?_
      refine S_while (α := Nat) (fun i => [(0, .sl st fl 1 (texts l)), (5, .int .i64 i)]) (fun _ => []) (fun i => i ≤ l.length ∧ (l.take i).any (fun s => decide (100000 < s.length)) = false) (fun i => l.length - i) 0
        ⟨Nat.zero_le _, rfl⟩ (.cons rfl (.cons rfl (.nil _))) rfl ?_
      rintro i ⟨hi, hN⟩
      refine ab 1000 rfl trivial ?_
      refine S_dec rfl (fun hlt => ?_) (fun hlt => ?_)
      · have hil : i < l.length := by simp [texts] at hlt; omega
        refine ab 1000 rfl trivial ?_
        refine S_index (.str l[i]) rfl rfl rfl ⟨rfl, by omega, by simp [texts, List.getElem?_eq_getElem hil], trivial⟩ ?_
        refine ab 1000 rfl trivial ?_
        refine S_dec rfl (fun hb => ?_) (fun hb => ?_)
        · have hb : 100000 < l[i].length := by omega
          refine ab 1000 rfl trivial ?_
          refine S_retc .int rfl trivial ?_
          rw [checkL, if_neg h, if_pos (List.any_eq_true.2 ⟨l[i], List.getElem_mem hil, by simpa using hb⟩)]; rfl
        · have hb : ¬ 100000 < l[i].length := by omega
          refine ab 1000 rfl trivial ?_
          refine S_round (i + 1) (by show l.length - (i + 1) < l.length - i; omega) ⟨hil, ?_⟩ (.cons rfl (.cons (ai64 rfl (by omega)) (.nil _))) rfl
          rw [List.take_succ_eq_append_getElem hil, List.any_append, hN]
          simp; omega
      · have hil : i = l.length := by simp [texts] at hlt; omega
        refine ab 1000 rfl trivial ?_
        refine S_retc .int rfl trivial ?_
        rw [hil, List.take_length] at hN
        rw [checkL, if_neg h, if_neg (by rw [hN]; simp)]; rfl
end Go.Proofs.YtpehmhlgldbeoaaGreatDoor
end
section
set_option linter.unusedVariables false
set_option linter.unusedSimpArgs false
set_option maxRecDepth 20000
set_option maxHeartbeats 4000000
namespace Go.Proofs.YtpehmhlgldbeoaaGreatDoor
open Go Go.Ab
def flatTR (root : List UInt8) (blobs : List (List UInt8)) : List Fil × Nat :=
  if 2000 < blobs.length ∨ longT blobs = true then ([], 2) else if isDig root = true then (if (flatDR (getF blobs) 102 root [] []).2 = 0 then ((flatDR (getF blobs) 102 root [] []).1, 0) else ([], (flatDR (getF blobs) 102 root [] []).2)) else ([], 1)
theorem one1 (x : List UInt8) : ∀ y ∈ [AV.str x], y.one = true := by
  intro y hy
  simp at hy
  subst hy; rfl
theorem FlatTree_ok {st fl : Bool} (root : List UInt8) (blobs : List (List UInt8)) (hr : root.length ≤ 9223372036854775807) (hbl : blobs.length ≤ 1000000000000) : Calc cx 19 [.str root, .sl st fl 1 (texts blobs)] (flatAV (flatTR root blobs)) :=
  pure_intro (fun a w => Tryz.call19 a w) Tryz.func19 rfl Tryz.ntmps19 rfl (flatAV_free _) fun B => by
    have rt : ∀ (x : List Fil) (e : Nat), e ≠ 0 → flatAV (x, e) = .tup [.nils, .int .i64 (e : Nat)] := fun x e he => by unfold flatAV; rw [if_neg he]
    have rf : ∀ e : Int, Free true (.tup [.nils, .int .i64 e]) := fun e => .tup (by intro x hx; simp at hx; rcases hx with rfl | rfl; exact .nils; exact .int)
    have hC := CheckList_ok (st := st) (fl := fl) blobs 2000 (by omega)
    have htb := txl blobs
    by_cases hmany : 2000 < blobs.length ∨ longT blobs = true
    · have hft : flatTR root blobs = ([], 2) := by unfold flatTR; rw [if_pos hmany]
      have hck : checkL blobs 2000 = 2 := by
        unfold checkL
        rcases hmany with h | h
        · rw [if_pos h]
        · split
          · rfl
          · unfold longT at h; rw [if_pos h]
      rw [hck] at hC
      rw [hft, rt _ _ (by decide)]
      refine pa [.v (.int .i64 ((2 : Nat) : Int)), .b true] rfl ?_ ?_
      · (repeat' with_reducible apply AllP_cons) <;> try exact aC
        · exact ⟨_, hC, .cons (txR _) (.cons (.refl .int) (.nil _))⟩
      exact S_retc (rf _) rfl trivial rfl
    have hlen : blobs.length ≤ 2000 := by
      rcases Nat.lt_or_ge 2000 blobs.length with h | h
      · exact absurd (.inl h) hmany
      · exact h
    have hlong : longT blobs = false := by
      cases h : longT blobs with
      | false => rfl
      | true => exact absurd (.inr h) hmany
    have hck : checkL blobs 2000 = 0 := by
      unfold checkL
      rw [if_neg (by omega)]
      unfold longT at hlong
      rw [if_neg (by rw [hlong]; simp)]
    have hbt : ∀ s ∈ blobs, s.length ≤ 1000000 := by
      intro s hs
      unfold longT at hlong
      rw [List.any_eq_false] at hlong
      have := hlong s hs
      simp at this; omega
    rw [hck] at hC
    have hI := IsDigest_ok root hr
    have hft : flatTR root blobs = if isDig root = true then (if (flatDR (getF blobs) 102 root [] []).2 = 0 then ((flatDR (getF blobs) 102 root [] []).1, 0) else ([], (flatDR (getF blobs) 102 root [] []).2)) else ([], 1) := by unfold flatTR; rw [if_neg hmany]
    cases hd : isDig root with
    | false =>
      rw [hd] at hI hft
      rw [hft, if_neg (by simp), rt _ _ (by decide)]
      refine pa [.v (.int .i64 ((0 : Nat) : Int)), .b false, .v (.bool false), .b true] rfl ?_ ?_
      · (repeat' with_reducible apply AllP_cons) <;> try exact aC
        · exact ⟨_, hC, .cons (txR _) (.cons (.refl .int) (.nil _))⟩
        · exact ⟨_, hI, .cons (.refl .str) (.nil _)⟩
      exact S_retc (rf _) rfl trivial rfl
    | true =>
      rw [hd] at hI hft
      rw [if_pos rfl] at hft
      refine pa [.v (.int .i64 ((0 : Nat) : Int)), .b false, .v (.bool true), .b false] rfl ?_ ?_
      · (repeat' with_reducible apply AllP_cons) <;> try exact aC
        · exact ⟨_, hC, .cons (txR _) (.cons (.refl .int) (.nil _))⟩
        · exact ⟨_, hI, .cons (.refl .str) (.nil _)⟩
      refine S_ghost 1 ⟨false, none⟩ (id := 0) (j := 0) rfl rfl rfl (show (0 : Nat) ≠ 1 by decide) ⟨_, _, .inl rfl⟩ ?_
      refine S_ghost 1 ⟨false, none⟩ (id := 0) (j := 1) rfl rfl rfl (show (0 : Nat) ≠ 2 by decide) ⟨_, _, .inl rfl⟩ ?_
      refine S_while (α := Nat) (fun i => [(0, .str root), (1, .sl st fl 1 (texts blobs)), (7, .ptr 0 0 0), (8, .int .i64 (i : Nat))]) (fun i => [(0, some (.cells [.ms 1 i 0 i 1 false, .ms 2 i 0 i 1 false] ⟨false, some 68⟩)), (i, some (.cells (texts ((blobs.take i).map sha)) ⟨false, none⟩)), (i, some (.cells (texts (blobs.take i)) ⟨false, none⟩))]) (fun i => i ≤ blobs.length) (fun i => blobs.length - i) 0
        (Nat.zero_le _) (.cons rfl (.cons rfl (.cons rfl (.cons rfl (.nil _))))) rfl ?_
      intro i hi
      have hi : i ≤ blobs.length := hi
      by_cases hlt : i < blobs.length
      · have e1 : decide ((i : Int) < (((texts blobs).length : Nat) : Int)) = true := decide_eq_true (by omega)
        have g1 : (texts blobs)[(i : Int).toNat]? = some (.str blobs[i]) := by rw [Int.toNat_natCast]; simp [texts, List.getElem?_eq_getElem hlt]
        have hS := SumR_ok blobs[i] (by have := hbt _ (List.getElem_mem hlt); omega)
        refine pB [.b true] rfl ?_
        refine S_drawC2 [(0, some (.cells [.ms 1 i 0 i 1 false, .ms 2 i 0 i 1 false] ⟨false, some 68⟩)), (i + 1, some (.cells (texts ((blobs.take i).map sha) ++ [.str (sha blobs[i])]) ⟨false, none⟩)), (i, some (.cells (texts (blobs.take i)) ⟨false, none⟩))]
          [(0, some (.cells [.ms 1 i 0 i 1 false, .ms 2 i 0 i 1 false] ⟨false, some 68⟩)), (i + 1, some (.cells (texts ((blobs.take i).map sha) ++ [.str (sha blobs[i])]) ⟨false, none⟩)), (i + 1, some (.cells (texts (blobs.take i) ++ [.str blobs[i]]) ⟨false, none⟩))]
          8 16 18 [] [.str blobs[i], .str (sha blobs[i]), .ms 1 (i + 1) 0 (i + 1) 1 false, .str blobs[i], .ms 2 (i + 1) 0 (i + 1) 1 false] rfl rfl rfl rfl rfl rfl rfl ?_ ?_
        · (repeat' with_reducible apply AllP_cons) <;> try exact aC
          all_goals first | exact ⟨_, hS, .cons (.refl .str) (.nil _)⟩ | skip
          · exact OpSpec.aop rfl ⟨rfl, one1 _, one1 _, rfl, rfl, (by
              show 0 + i * 1 = (texts ((blobs.take i).map sha)).length
              rw [txl, List.length_map, List.length_take]; omega), (by show (i + 1) * 16 ≤ 140737488355328; omega), (by show i + 1 ≤ 9223372036854775807; omega), trivial⟩
          · exact OpSpec.aop rfl ⟨rfl, one1 _, one1 _, rfl, rfl, (by
              show 0 + i * 1 = (texts (blobs.take i)).length
              rw [txl, List.length_take]; omega), (by show (i + 1) * 16 ≤ 140737488355328; omega), (by show i + 1 ≤ 9223372036854775807; omega), trivial⟩
        refine pB [] rfl ?_
        have t1 : texts ((blobs.take (i + 1)).map sha) = texts ((blobs.take i).map sha) ++ [.str (sha blobs[i])] := by rw [List.take_succ_eq_append_getElem hlt]; unfold texts; rw [List.map_append, List.map_append]; rfl
        have t2 : texts (blobs.take (i + 1)) = texts (blobs.take i) ++ [.str blobs[i]] := by rw [List.take_succ_eq_append_getElem hlt]; unfold texts; rw [List.map_append]; rfl
        exact S_round (i + 1) (by show blobs.length - (i + 1) < blobs.length - i; omega) hlt (.cons rfl (.cons rfl (.cons rfl (.cons (nX (by omega)) (.nil _))))) (by rw [t1, t2]; rfl)
      · have hil : i = blobs.length := by omega
        subst hil
        have e1 : decide ((blobs.length : Int) < (((texts blobs).length : Nat) : Int)) = false := decide_eq_false (by omega)
        rw [List.take_length]
        have hFl := flat_ok (a := false) (b := false) (fa := false) (fb := false) blobs (by omega) hbt 102 root [] [] (by decide) (by decide) (by decide)
        rw [hft]
        have hyl := flatDR_len (getF blobs) 102 root [] [] (by decide)
        generalize flatDR (getF blobs) 102 root [] [] = y at *
        obtain ⟨y1, y2⟩ := y
        have htd : (texts (blobs.map sha)).length = blobs.length := by rw [txl, List.length_map]
        have hfz : ∀ τ, Frz false ((0, some (Box.cells [.ms 1 blobs.length 0 blobs.length 1 false, .ms 2 blobs.length 0 blobs.length 1 false] ⟨false, some 68⟩)) :: (blobs.length, some (.cells (texts (blobs.map sha)) ⟨false, none⟩)) :: (blobs.length, some (.cells (texts blobs) ⟨false, none⟩)) :: τ) (.agg [.ms 1 blobs.length 0 blobs.length 1 false, .ms 2 blobs.length 0 blobs.length 1 false]) (sumsAV false false false false blobs) := by
          intro τ
          refine .agg rfl fun i h h' => ?_
          rcases i with _ | _ | i
          · exact Frz.ms rfl (by omega) (by rw [List.drop_zero, ones_flat (fun x hx => by obtain ⟨t, _, rfl⟩ := List.mem_map.1 hx; rfl)]; exact List.take_of_length_le (by omega)) (fun x hx => by obtain ⟨t, _, rfl⟩ := List.mem_map.1 hx; rfl) htd (texts_any _)
          · exact Frz.ms rfl (by omega) (by rw [List.drop_zero, ones_flat (fun x hx => by obtain ⟨t, _, rfl⟩ := List.mem_map.1 hx; rfl)]; exact List.take_of_length_le (by omega)) (fun x hx => by obtain ⟨t, _, rfl⟩ := List.mem_map.1 hx; rfl) htb (texts_any _)
          · simp at h'; omega
        by_cases hy : y2 = 0
        · subst hy
          rw [if_pos rfl]
          refine pa [.b false, .v (resR (y1, 0)), .b false] rfl ?_ ?_
          · (repeat' with_reducible apply AllP_cons) <;> try exact aC
            · exact ⟨_, hFl, .cons (hfz _) (.cons (.refl .str) (.cons (.refl .str) (.cons .nils (.nil _))))⟩
          exact S_retc (flatAV_free _) rfl trivial rfl
        · rw [if_neg hy, rt _ _ hy]
          refine pa [.b false, .v (resR (y1, y2)), .b true] rfl ?_ ?_
          · (repeat' with_reducible apply AllP_cons) <;> try exact aC
            all_goals first
              | exact ⟨_, hFl, .cons (hfz _) (.cons (.refl .str) (.cons (.refl .str) (.cons .nils (.nil _))))⟩
              | (show ((((y2 : Int)) != 0) = true); rw [chk_bne]; simpa using hy)
          exact S_retc (rf _) rfl trivial rfl
end Go.Proofs.YtpehmhlgldbeoaaGreatDoor
end
section
set_option linter.unusedVariables false
set_option linter.unusedSimpArgs false
set_option maxRecDepth 20000
set_option maxHeartbeats 4000000
namespace Go.Proofs.YtpehmhlgldbeoaaGreatDoor
open Go Go.Ab
theorem TreeFlats_ok (root : List UInt8) (blobs : List (List UInt8)) (hr : root.length ≤ 1048576) (h1 : blobs.length ≤ 1048576) (h2 : ∀ t ∈ blobs, t.length ≤ 1048576) :
    Calc cx 4 [.str root, .sl true false 1 (texts blobs)] (.bool true) :=
  pure_intro (fun a w => Tryz.call4 a w) Tryz.func4 rfl Tryz.ntmps4 rfl .bool fun B => by
    have hF := flatS (Flat_ok (st := true) (fl := false) root blobs (by omega) (by omega))
    have hG := flatS (FlatTree_ok (st := true) (fl := false) root blobs (by omega) (by omega))
    have hC := CheckList_ok (st := true) (fl := false) blobs 2000 (by omega)
    have hI := IsDigest_ok root (by omega)
    have hCl := Clash_ok (st := true) (fl := true) [blobs] (by simp) (by intro q hq; simp at hq; subst hq; omega) (by intro q hq s hs; simp at hq; subst hq; have := h2 s hs; omega)
    have frRB : ∀ σ : Heap, Frzs σ [.str root, .sl true false 1 (texts blobs)] [.str root, .sl true false 1 (texts blobs)] := fun σ => .cons (.refl .str) (.cons (txR _) (.nil _))
    have frCl : ∀ σ : Heap, Frzs σ [.sl true true 1 [.sl true false 1 (texts blobs)]] [.sl true true 1 (listsAV [blobs])] := fun σ => .cons (.refl (.sl (fun h => by cases h) (by intro x hx; simp at hx; subst hx; exact .sl (fun h => by cases h) (texts_any _)))) (.nil _)
    have htb := txl blobs
    by_cases hmany : 2000 < blobs.length ∨ longT blobs = true
    · have e1 : flatT sortFl root blobs = ([], 2) := by unfold flatT; rw [if_pos hmany]
      have e2 : flatTR root blobs = ([], 2) := by unfold flatTR; rw [if_pos hmany]
      have hck : checkL blobs 2000 = 2 := by
        unfold checkL
        rcases hmany with h | h
        · rw [if_pos h]
        · split
          · rfl
          · unfold longT at h; rw [if_pos h]
      rw [e1] at hF
      rw [e2] at hG
      rw [hck] at hC
      have hA := filesAre_ok (st := true) (fl := false) (st' := true) (fl' := false) [] [] 2 (by decide) (by decide) (fun _ => rfl) (fun _ => rfl)
      refine pa [.v (flatSV ([], 2)), .v (flatSV ([], 2)), .v (.int .i64 ((2 : Nat) : Int)), .b false, .b false, .b false, .v (.bool true), .b true, .v (.bool true)] rfl ?_ ?_
      · (repeat' with_reducible apply AllP_cons) <;> try exact aC
        all_goals first
          | exact ⟨_, hF, frRB _⟩
          | exact ⟨_, hG, frRB _⟩
          | exact ⟨_, hC, .cons (txR _) (.cons (.refl .int) (.nil _))⟩
          | exact ⟨_, treeBegun_ok, .nil _⟩
          | exact ⟨_, hA, .cons (fsR _) (.cons (.refl .int) (.cons (.refl .int) (.cons (fsR _) (.nil _))))⟩
      exact S_retc .bool rfl trivial rfl
    have hlen : blobs.length ≤ 2000 := by
      rcases Nat.lt_or_ge 2000 blobs.length with h | h
      · exact absurd (.inl h) hmany
      · exact h
    have hlong : longT blobs = false := by
      cases h : longT blobs with
      | false => rfl
      | true => exact absurd (.inr h) hmany
    have hck : checkL blobs 2000 = 0 := by
      unfold checkL
      rw [if_neg (by omega)]
      unfold longT at hlong
      rw [if_neg (by rw [hlong]; simp)]
    rw [hck] at hC
    cases hd : isDig root with
    | false =>
      have e1 : flatT sortFl root blobs = ([], 1) := by unfold flatT; rw [if_neg hmany, if_neg (by rw [hd]; simp)]
      have e2 : flatTR root blobs = ([], 1) := by unfold flatTR; rw [if_neg hmany, if_neg (by rw [hd]; simp)]
      rw [e1] at hF
      rw [e2] at hG
      rw [hd] at hI
      have hA := filesAre_ok (st := true) (fl := false) (st' := true) (fl' := false) [] [] 1 (by decide) (by decide) (fun _ => rfl) (fun _ => rfl)
      refine pa [.v (flatSV ([], 1)), .v (flatSV ([], 1)), .v (.int .i64 ((0 : Nat) : Int)), .b true, .v (.bool false), .b false, .b false, .v (.bool true), .b true, .v (.bool true)] rfl ?_ ?_
      · (repeat' with_reducible apply AllP_cons) <;> try exact aC
        all_goals first
          | exact ⟨_, hF, frRB _⟩
          | exact ⟨_, hG, frRB _⟩
          | exact ⟨_, hC, .cons (txR _) (.cons (.refl .int) (.nil _))⟩
          | exact ⟨_, hI, .cons (.refl .str) (.nil _)⟩
          | exact ⟨_, treeBegun_ok, .nil _⟩
          | exact ⟨_, hA, .cons (fsR _) (.cons (.refl .int) (.cons (.refl .int) (.cons (fsR _) (.nil _))))⟩
      exact S_retc .bool rfl trivial rfl
    | true =>
      rw [hd] at hI
      cases hcl : clashF [] [blobs].flatten with
      | true =>
        rw [hcl] at hCl
        refine pa [.v (flatSV (flatT sortFl root blobs)), .v (flatSV (flatTR root blobs)), .v (.int .i64 ((0 : Nat) : Int)), .b true, .v (.bool true), .b true, .v (.bool true), .b true, .v (.bool true)] rfl ?_ ?_
        · (repeat' with_reducible apply AllP_cons) <;> try exact aC
          all_goals first
            | exact ⟨_, hF, frRB _⟩
            | exact ⟨_, hG, frRB _⟩
            | exact ⟨_, hC, .cons (txR _) (.cons (.refl .int) (.nil _))⟩
            | exact ⟨_, hI, .cons (.refl .str) (.nil _)⟩
            | exact ⟨_, hCl, frCl _⟩
            | exact ⟨_, treeBegun_ok, .nil _⟩
        exact S_retc .bool rfl trivial rfl
      | false =>
        rw [hcl] at hCl
        have hap : Apart blobs := by
          have := clashF_apart [blobs].flatten [] hcl (fun a ha => by cases ha)
          simpa using this
        have hsame : flatTR root blobs = flatT sortFl root blobs := by
          unfold flatTR flatT
          rw [flat_same hap]
        rw [hsame] at hG
        have hyl : (flatT sortFl root blobs).1.length ≤ 60 := by
          unfold flatT
          rw [if_neg hmany, if_pos hd]
          split
          · show (sortFl (flatY root blobs).1).length ≤ 60
            rw [(sortFl_perm _).length_eq]
            exact (flatD_len (getM (ksB blobs) (txB blobs)) 102 root [] [] (by decide)).1
          · exact Nat.zero_le _
        generalize flatT sortFl root blobs = y at *
        obtain ⟨y1, e⟩ := y
        have hyl : y1.length ≤ 60 := hyl
        have hA := filesAre_ok (st := true) (fl := false) (st' := true) (fl' := false) (if e = 0 then y1 else []) (if e = 0 then y1 else []) e (by split <;> first | omega | decide) (by split <;> first | omega | decide) (fun _ => rfl) (fun h => if_neg h)
        refine pa [.v (flatSV (y1, e)), .v (flatSV (y1, e)), .v (.int .i64 ((0 : Nat) : Int)), .b true, .v (.bool true), .b true, .v (.bool false), .b false, .v (.bool true), .b true, .v (.bool true)] rfl ?_ ?_
        · (repeat' with_reducible apply AllP_cons) <;> try exact aC
          all_goals first
            | exact ⟨_, hF, frRB _⟩
            | exact ⟨_, hG, frRB _⟩
            | exact ⟨_, hC, .cons (txR _) (.cons (.refl .int) (.nil _))⟩
            | exact ⟨_, hI, .cons (.refl .str) (.nil _)⟩
            | exact ⟨_, hCl, frCl _⟩
            | exact ⟨_, treeBegun_ok, .nil _⟩
            | exact ⟨_, hA, .cons (fsR _) (.cons (.refl .int) (.cons (.refl .int) (.cons (fsR _) (.nil _))))⟩
        exact S_retc .bool rfl trivial rfl
end Go.Proofs.YtpehmhlgldbeoaaGreatDoor
end
